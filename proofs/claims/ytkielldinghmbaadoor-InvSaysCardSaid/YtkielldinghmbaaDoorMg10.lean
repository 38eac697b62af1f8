/-
  inv.Change walked: what is wrong, or what undoes the matrix with the products added.
-/
import Derived.Test.YtkielldinghmbaaDoorRows
import Derived.StillTailTactics
import Derived.Deep.QuietTactic
import Derived.BigQuiet
import Derived.Deep.OwnRows
import Derived.BigRegion
import Derived.Test.YtkielldinghmbaaDoorMg0
import Derived.Test.YtkielldinghmbaaDoorMg1
import Derived.Test.YtkielldinghmbaaDoorMg2
import Derived.Test.YtkielldinghmbaaDoorMg4
import Derived.Test.YtkielldinghmbaaDoorMg7
import Derived.Test.YtkielldinghmbaaDoorMg9
namespace Go.Proofs.YtkielldinghmbaaDoor
open Go.RowKit Go.Shelf Go.Rk
attribute [local go_sem] Oper.semAt_some

section
variable {a b d : Option Addr} {n ca m cb k cd : Nat} {A : List (List Int)} {u v : List Int} {w : World}
theorem Change_err1 {x : Int} (hA : RdM w a n ca A) (hq : squareR 5 0 9972 A = some x) :
    Calls Tryd.prog 58 #[.slice a n ca, .slice b m cb, .slice d k cd] w fun e w' => e = .returned (.tuple #[.slice none 0 0, .iface 70 (.int .i64 x)]) ∧ Below w.heap.size w w' := by
  have HQ := Lib.hid hq
  clear hq
  go_enter Tryd.func58, Tryd.ntmps58
  go_wp2_with (first | (go_at_call 37; refine (det_Check_is (hA.below (below_al (below_al (Below.refl _ w) _) _)) HQ.out).mono ?_; rintro e w1 ⟨rfl, rfl⟩; simp only [errV]))
  go_ret2
  exact ⟨rfl, below_al (below_al (Below.refl _ w) _) _⟩
theorem Change_err2 (hA : RdM w a n ca A) (hq : squareR 5 0 9972 A = none) (hu : RdI w b m cb u) (hv : RdI w d k cd v) (h : m ≠ n ∨ k ≠ n) :
    Calls Tryd.prog 58 #[.slice a n ca, .slice b m cb, .slice d k cd] w fun e w' => e = .returned (.tuple #[.slice none 0 0, .iface 70 (.int .i64 3)]) ∧ Below w.heap.size w w' := by
  have HQ := Lib.hid hq
  clear hq
  have lu := hu.len_max
  have lv := hv.len_max
  have la := hA.len_max
  by_cases h1 : m = n
  · have z1 : ((m : Int) != (n : Int)) = false := bne_eq_false_iff_eq.2 (by omega)
    have z2 : ((k : Int) != (n : Int)) = true := bne_iff_ne.2 (by omega)
    clear h h1
    go_enter Tryd.func58, Tryd.ntmps58
    go_wp2_with (first | (go_at_call 37; refine (det_Check_is (hA.below (below_al (below_al (Below.refl _ w) _) _)) HQ.out).mono ?_; rintro e w1 ⟨rfl, rfl⟩; simp only [errV]))
    go_ret2
    exact ⟨rfl, below_al (below_al (Below.refl _ w) _) _⟩
  · have z1 : ((m : Int) != (n : Int)) = true := bne_iff_ne.2 (by omega)
    clear h h1
    go_enter Tryd.func58, Tryd.ntmps58
    go_wp2_with (first | (go_at_call 37; refine (det_Check_is (hA.below (below_al (below_al (Below.refl _ w) _) _)) HQ.out).mono ?_; rintro e w1 ⟨rfl, rfl⟩; simp only [errV]))
    go_ret2
    exact ⟨rfl, below_al (below_al (Below.refl _ w) _) _⟩
theorem Change_err3 (hA : RdM w a n ca A) (hq : squareR 5 0 9972 A = none) (hu : RdI w b n cb u) (hv : RdI w d n cd v) (h : (anyB 0 9972 u || anyB 0 9972 v) = true) :
    Calls Tryd.prog 58 #[.slice a n ca, .slice b n cb, .slice d n cd] w fun e w' => e = .returned (.tuple #[.slice none 0 0, .iface 70 (.int .i64 1)]) ∧ Below w.heap.size w w' := by
  have HQ := Lib.hid hq
  clear hq
  have lu := hu.len_max
  have z1 : ((n : Int) != (n : Int)) = false := bne_eq_false_iff_eq.2 rfl
  have A1 := fun w' (q : Below w.heap.size w w') => any_any b n cb u 0 9972 w' (hu.below q)
  have A2 := fun w' (q : Below w.heap.size w w') => any_any d n cd v 0 9972 w' (hv.below q)
  rcases h1 : anyB 0 9972 u with _ | _
  · rw [h1] at h
    simp only [h1] at A1
    have h2 : anyB 0 9972 v = true := by simpa using h
    simp only [h2] at A2
    have A1 := Lib.hid A1
    have A2 := Lib.hid A2
    clear h h1 h2
    go_enter Tryd.func58, Tryd.ntmps58
    go_wp2_with (first | (go_at_call 37; refine (det_Check_is (hA.below (below_al (below_al (Below.refl _ w) _) _)) HQ.out).mono ?_; rintro e w1 ⟨rfl, rfl⟩; simp only [errV]) | (go_at_call 78; first | ((with_reducible refine (A1.out _ (below_al (below_al (Below.refl _ w) _) _)).mono ?_); rintro e w' ⟨rfl, rfl⟩) | ((with_reducible refine (A2.out _ (below_al (below_al (Below.refl _ w) _) _)).mono ?_); rintro e w' ⟨rfl, rfl⟩)))
    go_ret2
    exact ⟨rfl, below_al (below_al (Below.refl _ w) _) _⟩
  · simp only [h1] at A1
    have A1 := Lib.hid A1
    clear h h1 A2
    go_enter Tryd.func58, Tryd.ntmps58
    go_wp2_with (first | (go_at_call 37; refine (det_Check_is (hA.below (below_al (below_al (Below.refl _ w) _) _)) HQ.out).mono ?_; rintro e w1 ⟨rfl, rfl⟩; simp only [errV]) | (go_at_call 78; first | ((with_reducible refine (A1.out _ (below_al (below_al (Below.refl _ w) _) _)).mono ?_); rintro e w' ⟨rfl, rfl⟩)))
    go_ret2
    exact ⟨rfl, below_al (below_al (Below.refl _ w) _) _⟩

/-- How many places of row i, and of column j, are among the first k. -/
def seenC (n i k : Nat) : Nat := min n (k - i * n)
def seenR (n j k : Nat) : Nat := k / n + if j < k % n then 1 else 0
def colA (n : Nat) (A : List (List Int)) (u : List Int) (i k : Nat) : Int := sumTo (fun j => en A i j * ix u j) (seenC n i k) % 9973
def rowA (n : Nat) (A : List (List Int)) (v : List Int) (j k : Nat) : Int := sumTo (fun i => ix v i * en A i j) (seenR n j k) % 9973
theorem pl_div {n i j : Nat} (hj : j < n) : (i * n + j) / n = i ∧ (i * n + j) % n = j := by
  constructor
  · rw [Nat.mul_comm, Nat.mul_add_div (by omega), Nat.div_eq_of_lt hj, Nat.add_zero]
  · rw [Nat.mul_comm, Nat.mul_add_mod, Nat.mod_eq_of_lt hj]
theorem seenC_at {n i j : Nat} (hj : j < n) : seenC n i (i * n + j) = j := by unfold seenC; omega
theorem seenC_next {n i j : Nat} (hj : j < n) : seenC n i (i * n + j + 1) = j + 1 := by unfold seenC; omega
theorem seenC_else {n i j r : Nat} (hj : j < n) (h : r ≠ i) : seenC n r (i * n + j + 1) = seenC n r (i * n + j) := by
  unfold seenC
  rcases Nat.lt_or_gt_of_ne h with h1 | h1
  · have := Nat.mul_le_mul_right n (show r + 1 ≤ i from h1)
    rw [Nat.add_mul, Nat.one_mul] at this
    omega
  · have := Nat.mul_le_mul_right n (show i + 1 ≤ r from h1)
    rw [Nat.add_mul, Nat.one_mul] at this
    omega
theorem seenC_all {n i : Nat} (hi : i < n) : seenC n i (n * n) = n := by
  unfold seenC
  have := Nat.mul_le_mul_right n (show i + 1 ≤ n from hi)
  rw [Nat.add_mul, Nat.one_mul] at this
  omega
theorem seenR_at {n i j : Nat} (hj : j < n) (s : Nat) : seenR n s (i * n + j) = i + if s < j then 1 else 0 := by unfold seenR; rw [(pl_div hj).1, (pl_div hj).2]
theorem seenR_next {n i j : Nat} (hj : j < n) {s : Nat} (hs : s < n) : seenR n s (i * n + j + 1) = i + if s < j + 1 then 1 else 0 := by
  by_cases h : j + 1 < n
  · rw [Nat.add_assoc, seenR_at h]
  · have e : i * n + j + 1 = (i + 1) * n + 0 := by rw [Nat.add_mul]; omega
    rw [e, seenR_at (by omega), if_neg (by omega), if_pos (by omega)]
theorem seenR_all {n j : Nat} (hn : 0 < n) : seenR n j (n * n) = n := by
  have e : n * n = n * n + 0 := rfl
  rw [e, seenR_at hn, if_neg (by omega), Nat.add_zero]
theorem seen_zero (n i : Nat) : seenC n i 0 = 0 ∧ seenR n i 0 = 0 := by unfold seenC seenR; simp
theorem colA_step {n i j : Nat} (A : List (List Int)) (u : List Int) (hj : j < n) : colA n A u i (i * n + j + 1) = (colA n A u i (i * n + j) + en A i j * ix u j) % 9973 := by
  unfold colA; rw [seenC_next hj, seenC_at hj, sumTo, Int.emod_add_emod]
theorem colA_else {n i j r : Nat} (A : List (List Int)) (u : List Int) (hj : j < n) (h : r ≠ i) : colA n A u r (i * n + j + 1) = colA n A u r (i * n + j) := by
  unfold colA; rw [seenC_else hj h]
theorem rowA_step {n i j : Nat} (A : List (List Int)) (v : List Int) (hj : j < n) : rowA n A v j (i * n + j + 1) = (rowA n A v j (i * n + j) + ix v i * en A i j) % 9973 := by
  unfold rowA; rw [seenR_next hj hj, seenR_at hj, if_pos (by omega), if_neg (by omega), sumTo, Int.emod_add_emod]; rfl
theorem rowA_else {n i j s : Nat} (A : List (List Int)) (v : List Int) (hj : j < n) (hs : s < n) (h : s ≠ j) : rowA n A v s (i * n + j + 1) = rowA n A v s (i * n + j) := by
  unfold rowA; rw [seenR_next hj hs, seenR_at hj]
  by_cases e : s < j
  · rw [if_pos e, if_pos (by omega)]
  · rw [if_neg e, if_neg (by omega)]
theorem colA_bd (n : Nat) (A : List (List Int)) (u : List Int) (i k : Nat) : 0 ≤ colA n A u i k ∧ colA n A u i k ≤ 9972 := by unfold colA; omega
theorem rowA_bd (n : Nat) (A : List (List Int)) (v : List Int) (i k : Nat) : 0 ≤ rowA n A v i k ∧ rowA n A v i k ≤ 9972 := by unfold rowA; omega
def colS (n : Nat) (A : List (List Int)) (u : List Int) (i : Nat) : Int := sumTo (fun j => en A i j * ix u j) n % 9973
def rowS (n : Nat) (A : List (List Int)) (v : List Int) (j : Nat) : Int := sumTo (fun i => ix v i * en A i j) n % 9973
theorem OwI.made {w : World} {B g n : Nat} (E : TypeId) (hg : g = w.heap.size) (hB : B ≤ w.heap.size) (hn : n ≤ maxLen) : OwI (w.alloc (.cells (madeCells #[.int .i64 0] n) E)) B E (some ⟨g, 0, none⟩) n n (List.replicate n 0) := by
  subst hg
  refine ⟨by simp, by simp, .inr ⟨w.heap.size, n, _, rfl, hB, World.alloc_heap_new w _, Nat.le_refl _, hn, ?_, ?_⟩⟩
  · have := congrArg List.length (toList_madeCells_one (Value.int .i64 0) n)
    simpa using this
  · rw [toList_madeCells_one, List.take_of_length_le (by simp), List.map_replicate]
theorem OwI.fresh {w W : World} {E gc n : Nat} (_ : OwI W w.heap.size E (some ⟨gc, 0, none⟩) n n (List.replicate n 0)) : ∀ i, i < n → ix (List.replicate n (0 : Int)) i = 0 := fun i hi => by rw [ix_lt (by simpa using hi)]; simp

def chgK (n : Nat) (A : List (List Int)) (u v : List Int) : Int := (1 + sumTo (fun i => ix v i * colS n A u i) n) % 9973
def chgE (n : Nat) (A : List (List Int)) (u v : List Int) (i j : Nat) : Int := (en A i j - colS n A u i * rowS n A v j % 9973 * powm (chgK n A u v) 9971) % 9973
set_option maxRecDepth 100000 in
set_option maxHeartbeats 4000000 in
theorem Change_ok (hA : RdM w a n ca A) (G : Good n n A) (hu : RdI w b n cb u) (hv : RdI w d n cd v) (iu : In 0 9972 u) (iv : In 0 9972 v) :
    Calls Tryd.prog 58 #[.slice a n ca, .slice b n cb, .slice d n cd] w fun e w' => Below w.heap.size w w' ∧ ((chgK n A u v = 0 ∧ e = .returned (.tuple #[.slice none 0 0, .iface 70 (.int .i64 5)])) ∨ (chgK n A u v ≠ 0 ∧ ∃ a' c' P, e = .returned (.tuple #[.slice a' n c', .nilIface]) ∧ OwM w' w.heap.size 32 3 a' n c' P ∧ IsR n n P (chgE n A u v))) := by
  have HM := Lib.hid matTy
  have HG := Lib.hid G
  have hn := G.n1
  have HQ := Lib.hid (squareR_of (lo := 0) (hi := 9972) (most := 5) hn.1 (by omega) G.dm G.ent)
  have lu := Lib.hid hu.len_eq
  have lv := Lib.hid hv.len_eq
  have IU := Lib.hid iu
  have IV := Lib.hid iv
  have z1 : ((n : Int) != (n : Int)) = false := bne_eq_false_iff_eq.2 rfl
  have A1 := fun w' (q : Below w.heap.size w w') => any_any b n cb u 0 9972 w' (hu.below q)
  have A2 := fun w' (q : Below w.heap.size w w') => any_any d n cd v 0 9972 w' (hv.below q)
  simp only [any_of_in iu] at A1
  simp only [any_of_in iv] at A2
  obtain ⟨ba, oa, D, O, C, rfl, hba, hDa, hGa⟩ := hA.grid HG.out.dm (by omega) (by omega)
  obtain ⟨bu, ou, rfl, _, _⟩ := hu.at (k := 0) (by omega)
  obtain ⟨bv, ov, rfl, _, _⟩ := hv.at (k := 0) (by omega)
  have A1 := Lib.hid A1
  have A2 := Lib.hid A2
  clear G iu iv
  refine (callsIn_wide (n := 6)).1 ?_
  refine callsIn_of_wp_marks Tryd.func58 rfl trivial ?_ rfl
  simp only [Tryd.ntmps58, List.size_toArray, List.length_cons, List.length_nil, Nat.reduceAdd, Nat.reduceSub, Array.replicate_succ, Array.replicate_zero, List.push_toArray, List.append_toArray, List.nil_append, List.cons_append]
  refine wpIn_wide.2 ?_
  have k0 := below_al (below_al (Below.refl w.heap.size w) (.cells #[.slice (some ⟨bu, ou, none⟩) n cb] 32)) (.cells #[.slice (some ⟨bv, ov, none⟩) n cd] 32)
  have p4 : ((w.alloc (.cells #[.slice (some ⟨bu, ou, none⟩) n cb] 32)).alloc (.cells #[.slice (some ⟨bv, ov, none⟩) n cd] 32)).cell? ⟨w.heap.size, 0, none⟩ = some (.slice (some ⟨bu, ou, none⟩) n cb) := alloc_keep (by simp)
  have p5 : ((w.alloc (.cells #[.slice (some ⟨bu, ou, none⟩) n cb] 32)).alloc (.cells #[.slice (some ⟨bv, ov, none⟩) n cd] 32)).cell? ⟨w.heap.size + 1, 0, none⟩ = some (.slice (some ⟨bv, ov, none⟩) n cd) := by simp
  go_wp2_with (first | (go_at_call 37; refine (det_Check_is (hA.below k0) HQ.out).mono ?_; rintro e w1 ⟨rfl, rfl⟩; simp only [errV]) | (go_at_call 78; first | ((with_reducible refine (A1.out _ k0).mono ?_); rintro e w' ⟨rfl, rfl⟩) | ((with_reducible refine (A2.out _ k0).mono ?_); rintro e w' ⟨rfl, rfl⟩)) | fail)
  rename_i Kr Hr
  have hmk := fun w' => run_make_row' (P := Tryd.prog) 32 3 (.int .i64 0) 8 Tryd.underlying32 infoInt rfl .i64 .i64 n (by omega) (by omega) w'
  generalize (w.alloc (.cells #[.slice (some ⟨bu, ou, none⟩) n cb] 32)).alloc (.cells #[.slice (some ⟨bv, ov, none⟩) n cd] 32) = w2 at *
  clear A1 A2 z1
  refine Code.wp_mono (Q := fun e a' w' => ∃ pc pr gc gr, e = Exit.normal ∧ a' = { tmps := #[.slice (some ⟨ba, oa, none⟩) n ca, .slice (some ⟨bu, ou, none⟩) n cb, .slice (some ⟨bv, ov, none⟩) n cd, undef, .pointer (some ⟨w.heap.size, 0, none⟩), .pointer (some ⟨w.heap.size + 1, 0, none⟩), .slice none 0 0, .nilIface, .nilIface, .int .i64 n, .pointer (some ⟨pc, 0, none⟩), .pointer (some ⟨pr, 0, none⟩), undef, undef, undef, undef, undef, undef, undef, undef, undef, undef, undef, undef, .slice (some ⟨ba, oa, none⟩) n ca, .nilIface, .nilIface, .bool false, undef, .slice (some ⟨ba, oa, none⟩) n ca, .int .i64 n, .bool false, .slice (some ⟨bu, ou, none⟩) n cb, .int .i64 n, .int .i64 n, .bool false, .bool false, .slice (some ⟨bv, ov, none⟩) n cd, .int .i64 n, .int .i64 n, .bool false, .bool false, undef, .bool false, .slice (some ⟨bu, ou, none⟩) n cb, .bool false, .bool false, .slice (some ⟨bv, ov, none⟩) n cd, .bool false, .bool false, undef, .int .i64 n, .slice (some ⟨gc, 0, none⟩) n n, .int .i64 n, .slice (some ⟨gr, 0, none⟩) n n, undef, undef, undef, undef, undef, undef, undef, undef, undef, undef, undef, undef, undef, undef, undef, undef, undef, undef, undef, undef, undef, undef, undef, undef, undef, undef, undef, undef, undef, undef, undef, undef, undef, undef, undef, undef, undef, undef, undef, undef, undef, undef, undef, undef, undef, undef, undef, undef, undef, undef, undef, undef, undef, undef, undef, undef, undef, undef, undef, undef, undef, undef, undef, undef, undef, undef, undef, undef, undef, undef, undef, undef, undef, undef, undef, undef, undef, undef, undef, undef, undef, undef, undef, undef, undef, undef, undef, undef, undef, undef, undef, undef, undef, undef], defers := [] } ∧ (w'.cell? ⟨pc, 0, none⟩ = some (.slice (some ⟨gc, 0, none⟩) n n) ∧ w'.cell? ⟨pr, 0, none⟩ = some (.slice (some ⟨gr, 0, none⟩) n n)) ∧ OwI w' w2.heap.size 3 (some ⟨gc, 0, none⟩) n n (List.replicate n 0) ∧ OwI w' w2.heap.size 3 (some ⟨gr, 0, none⟩) n n (List.replicate n 0) ∧ gc ≠ gr ∧ Below w2.heap.size w2 w') ?rest ?region
  case region =>
    clear Hr k0 p4 p5
    go_region
    all_goals
      refine ⟨_, _, _, _, rfl, rfl, ⟨by simp [go_sem], by simp [go_sem]⟩, ?_, ?_, by omega, ?_⟩
      · repeat (first | (refine OwI.made _ ?_ ?_ ?_ <;> first | omega | (simp; done) | (simp; omega) | (unfold maxLen; omega)) | refine OwI.drew ?_ | refine OwI.alloc ?_ _)
      · repeat (first | (refine OwI.made _ ?_ ?_ ?_ <;> first | omega | (simp; done) | (simp; omega) | (unfold maxLen; omega)) | refine OwI.drew ?_ | refine OwI.alloc ?_ _)
      · repeat (first | exact Below.refl _ _ | refine Below.drew ?_ | refine below_al ?_ _)
  case rest =>
    rintro e a' W4 ⟨pc, pr, gc, gr, rfl, rfl, ⟨hpc, hpr⟩, hC, hR, hne, b4⟩
    refine Hr _ _ ?_
    clear Hr hmk
    have k4 := below_tr k0 b4
    have p4' := b4.keep (World.block_lt_of_cell? _ _ p4) p4
    have p5' := b4.keep (World.block_lt_of_cell? _ _ p5) p5
    have hw2 : w.heap.size ≤ w2.heap.size := k0.size
    have hlow : Hid (w.heap.size ≤ gc ∧ w.heap.size ≤ gr) := ⟨Nat.le_trans hw2 (hC.own.lt gc rfl).1, Nat.le_trans hw2 (hR.own.lt gr rfl).1⟩
    have HNE := Lib.hid hne
    clear p4 p5 k0 b4 hne hw2
    go_wp2_with (go_at_call 65; fail)
    refine (callsIn_wide.1 (each_in 0 (some ⟨ba, oa, none⟩) n ca W4)).mono ?_
    rintro e w' ⟨rfl, rfl⟩
    go_wp2_with fail
    refine (wpIn_wide (n := 6)).1 ?_
    have hBm : (W4.alloc (.cells #[.slice (some ⟨ba, oa, none⟩) n ca] 22)).cell? ⟨W4.heap.size, 0, none⟩ = some (.slice (some ⟨ba, oa, none⟩) n ca) := by simp
    have k5 := k4.alloc k4.size (.cells #[.slice (some ⟨ba, oa, none⟩) n ca] 22)
    have h5w := k5.size
    have hC5 := hC.alloc (.cells #[.slice (some ⟨ba, oa, none⟩) n ca] 22)
    have hR5 := hR.alloc (.cells #[.slice (some ⟨ba, oa, none⟩) n ca] 22)
    have q1 := alloc_keep (o := .cells #[.slice (some ⟨ba, oa, none⟩) n ca] 22) hpc
    have q2 := alloc_keep (o := .cells #[.slice (some ⟨ba, oa, none⟩) n ca] 22) hpr
    have q3 := alloc_keep (o := .cells #[.slice (some ⟨ba, oa, none⟩) n ca] 22) p4'
    have q4 := alloc_keep (o := .cells #[.slice (some ⟨ba, oa, none⟩) n ca] 22) p5'
    let S : World → Prop := fun W => W.cell? ⟨pc, 0, none⟩ = some (.slice (some ⟨gc, 0, none⟩) n n) ∧ W.cell? ⟨pr, 0, none⟩ = some (.slice (some ⟨gr, 0, none⟩) n n) ∧ W.cell? ⟨w.heap.size, 0, none⟩ = some (.slice (some ⟨bu, ou, none⟩) n cb) ∧ W.cell? ⟨w.heap.size + 1, 0, none⟩ = some (.slice (some ⟨bv, ov, none⟩) n cd) ∧ W.cell? ⟨W4.heap.size, 0, none⟩ = some (.slice (some ⟨ba, oa, none⟩) n ca) ∧ Below w.heap.size w W
    let I : Nat → World → Prop := fun k W => ∃ Cs Rs, OwI W w2.heap.size 3 (some ⟨gc, 0, none⟩) n n Cs ∧ OwI W w2.heap.size 3 (some ⟨gr, 0, none⟩) n n Rs ∧ Hid ((∀ i, i < n → ix Cs i = colA n A u i k) ∧ ∀ j, j < n → ix Rs j = rowA n A v j k) ∧ S W
    have hS0 : S (W4.alloc (.cells #[.slice (some ⟨ba, oa, none⟩) n ca] 22)) := ⟨q1, q2, q3, q4, hBm, k5⟩
    have hI0 : I 0 (W4.alloc (.cells #[.slice (some ⟨ba, oa, none⟩) n ca] 22)) := ⟨_, _, hC5, hR5, ⟨fun i hi => by rw [ix_lt (by simpa using hi)]; unfold colA; rw [(seen_zero n i).1]; simp [sumTo], fun i hi => by rw [ix_lt (by simpa using hi)]; unfold rowA; rw [(seen_zero n i).2]; simp [sumTo]⟩, hS0⟩
    clear q1 q2 q3 q4 hC5 hR5 hBm hS0 hC hR hpc hpr p4' p5' k4
    refine range_on (n := 6) (by decide) (gf := 85) (lb := #[.pointer (some ⟨W4.heap.size, 0, none⟩)]) rfl (enters_of Tryd.func85 (by kernel_rfl) rfl) (encs := encE n fun i j => en A i j) (N := n * n) (fun _ => rfl) I
      (fun k X Y row hs hgr hr => let ⟨Cs, Rs, e1, e2, e3, c1, c2, c3, c4, c5, c6⟩ := hs; ⟨Cs, Rs, e1.grown hgr (ownsRow_notCells e1.own fun r e => (hr r e).2), e2.grown hgr (ownsRow_notCells e2.own fun r e => (hr r e).2), e3, cell_kept c1 hgr (fun r e => (hr r e).2), cell_kept c2 hgr (fun r e => (hr r e).2), cell_kept c3 hgr (fun r e => (hr r e).2), cell_kept c4 hgr (fun r e => (hr r e).2), cell_kept c5 hgr (fun r e => (hr r e).2), c6.grown hgr c6.size (fun r e => Nat.le_trans h5w (hr r e).1)⟩)
      (each1_on 5 (n := n) (c := n) (v := fun i j => en A i j) (D := D) (O := O) (C := C) (b := ba) (off := oa) (cap := ca) (by omega) (by omega) I fun k W h => let ⟨_, _, _, _, _, _, _, _, _, c5, c6⟩ := h; ⟨⟨fun i hi => (hGa.fresh c6).hdr i hi, fun i j hi hj _ => let ⟨x, h1, h2⟩ := (hGa.fresh c6).el i j hi hj; by rw [← h2]; exact h1⟩, c5⟩)
      hI0
      (fun k a' W => ∃ Bx, W.cell? ⟨Bx, 0, none⟩ = some (.int .i64 ((k / n : Nat) : Int)) ∧ W.cell? ⟨Bx, 1, none⟩ = some (.int .i64 ((k % n : Nat) : Int)) ∧ a' = { tmps := #[.slice (some ⟨ba, oa, none⟩) n ca, .slice (some ⟨bu, ou, none⟩) n cb, .slice (some ⟨bv, ov, none⟩) n cd, undef, .pointer (some ⟨w.heap.size, 0, none⟩), .pointer (some ⟨w.heap.size + 1, 0, none⟩), .slice none 0 0, .nilIface, .nilIface, .int .i64 n, .pointer (some ⟨pc, 0, none⟩), .pointer (some ⟨pr, 0, none⟩), .pointer (some ⟨Bx, 0, none⟩), .int .i64 (en A (k / n) (k % n)), undef, undef, undef, undef, undef, undef, undef, undef, undef, undef, .slice (some ⟨ba, oa, none⟩) n ca, .nilIface, .nilIface, .bool false, undef, .slice (some ⟨ba, oa, none⟩) n ca, .int .i64 n, .bool false, .slice (some ⟨bu, ou, none⟩) n cb, .int .i64 n, .int .i64 n, .bool false, .bool false, .slice (some ⟨bv, ov, none⟩) n cd, .int .i64 n, .int .i64 n, .bool false, .bool false, undef, .bool false, .slice (some ⟨bu, ou, none⟩) n cb, .bool false, .bool false, .slice (some ⟨bv, ov, none⟩) n cd, .bool false, .bool false, undef, .int .i64 n, .slice (some ⟨gc, 0, none⟩) n n, .int .i64 n, .slice (some ⟨gr, 0, none⟩) n n, .slice (some ⟨ba, oa, none⟩) n ca, .func (.func 85) #[] #[.pointer (some ⟨W4.heap.size, 0, none⟩)], .agg #[.int .i64 ((k / n : Nat) : Int), .int .i64 ((k % n : Nat) : Int)], .int .i64 (en A (k / n) (k % n)), undef, undef, undef, undef, undef, undef, undef, undef, undef, undef, undef, undef, undef, undef, undef, undef, undef, undef, undef, undef, undef, undef, undef, undef, undef, undef, undef, undef, undef, undef, undef, undef, undef, undef, undef, undef, undef, undef, undef, undef, undef, undef, undef, undef, undef, undef, undef, undef, undef, undef, undef, undef, undef, undef, undef, undef, undef, undef, undef, undef, undef, undef, undef, undef, undef, undef, undef, undef, undef, undef, undef, undef, undef, undef, undef, undef, undef, undef, undef, undef, undef, undef, undef, undef, undef, undef, undef, undef, undef, undef], defers := [] })
      (fun a' k X Y row hs hgr hr => let ⟨Bx, e1, e2, e3⟩ := hs; ⟨Bx, cell_kept e1 hgr (fun r e => (hr r e).2), cell_kept e2 hgr (fun r e => (hr r e).2), e3⟩)
      ?assign ?body ?done
    case assign =>
      rintro l k W K hk ⟨Cs, Rs, e1, e2, e3, c1, c2, c3, c4, c5, c6⟩ hK
      dsimp only [encE]
      gi_wp2
      exact hK _ _ ((KeepsOthers.alloc _ _).from _) ⟨Cs, Rs, e1.alloc _, e2.alloc _, e3, alloc_keep c1, alloc_keep c2, alloc_keep c3, alloc_keep c4, alloc_keep c5, c6.alloc c6.size _⟩ ⟨W.heap.size, by simp, by simp, rfl⟩
    case body =>
      rintro l k a' W hk ⟨Cs, Rs, e1, e2, e3, c1, c2, c3, c4, c5, c6⟩ ⟨Bx, y1, y2, rfl⟩
      clear hI0 k5
      obtain ⟨i, hi0⟩ : ∃ i, i = k / n := ⟨_, rfl⟩
      obtain ⟨j, hj0⟩ : ∃ j, j = k % n := ⟨_, rfl⟩
      have hkk : Hid (k = i * n + j) := by unfold Hid; rw [hi0, hj0]; exact (Nat.div_add_mod' k n).symm
      have hi : i < n := by rw [hi0]; exact Nat.div_lt_of_lt_mul hk
      have hj : j < n := by rw [hj0]; exact Nat.mod_lt _ (by omega)
      simp only [← hi0, ← hj0] at y1 y2 ⊢
      clear hi0 hj0 hk
      obtain ⟨X, hX⟩ : ∃ X, en A i j = X := ⟨_, rfl⟩
      have bX : 0 ≤ X ∧ X ≤ 9972 := by rw [← hX]; exact HG.out.ent i j hi hj
      rw [hX]
      have HX := Lib.hid hX
      clear hX
      gi_wp2
      refine region_round_quiet (by kernel_rfl) (by kernel_rfl) (fun ⟨_, _, h⟩ => nomatch (show Exit.outgrown = Exit.normal from h.1)) (by kernel_rfl) ?_
      repeat (go_big_quiet_step (fail))
      refine wpQuiet_nil ?_
      rintro _ ⟨nq, rfl⟩
      have kq := below_drewN (Below.refl W.heap.size W) nq
      have KO := keepsOthers_drewN W nq
      replace e1 := e1.below kq
      replace e2 := e2.below kq
      replace c1 := kq.keep (World.block_lt_of_cell? _ _ c1) c1
      replace c2 := kq.keep (World.block_lt_of_cell? _ _ c2) c2
      replace c3 := kq.keep (World.block_lt_of_cell? _ _ c3) c3
      replace c4 := kq.keep (World.block_lt_of_cell? _ _ c4) c4
      replace c5 := kq.keep (World.block_lt_of_cell? _ _ c5) c5
      replace c6 := below_tr c6 kq
      clear y1 y2 kq
      generalize W.drewN nq = Wq at *
      obtain ⟨gz, hz, _, _, hcC, hfC⟩ := e1.at (by omega)
      cases hz
      have x1 := hcC i hi
      have f1 := hfC i
      obtain ⟨_, _, hz, _, hcu⟩ := (hu.below c6).at hj
      cases hz
      have x2 := hcu j hj
      obtain ⟨Y, hY⟩ : ∃ Y, ix u j = Y := ⟨_, rfl⟩
      have bY : 0 ≤ Y ∧ Y ≤ 9972 := by rw [← hY]; exact IU.out j (by rw [lu.out]; exact hj)
      rw [hY] at x2
      have HY := Lib.hid hY
      obtain ⟨Z, hZ⟩ : ∃ Z, ix Cs i = Z := ⟨_, rfl⟩
      have bZ : 0 ≤ Z ∧ Z ≤ 9972 := by rw [← hZ, e3.out.1 i hi]; exact colA_bd _ _ _ _ _
      rw [hZ] at x1
      have HZ := Lib.hid hZ
      have i1 : (i : Int) < (n : Int) := by omega
      have i2 : (j : Int) < (n : Int) := by omega
      have bm := mul_bd bX bY
      have u1 : IntKind.i64.wrap (X * Y) = X * Y := Go.IntWalk.i64_in _ (by omega)
      have u2 : IntKind.i64.wrap (Z + X * Y) = Z + X * Y := Go.IntWalk.i64_in _ (by omega)
      clear hY hZ hcC hfC hcu
      gi_wp2
      refine region_round_tail 15 (by kernel_rfl) (by kernel_rfl) (fun ⟨_, _, h⟩ => nomatch (show Exit.outgrown = Exit.normal from h.1)) (by kernel_rfl) ?_
      simp only [List.take_succ_cons, List.take_zero, List.drop_succ_cons, List.drop_zero]
      repeat still_step
      still_call (stillW (Field_any _ _))
      repeat still_step
      refine wpStill_nil ?_
      change wpList _ _ _ _ _ Wq.drew
      clear u1 u2
      go_wp2_with fail
      have KO2 := KO.trans ((KeepsOthers.setCell Wq ⟨gc, i, none⟩ (.int .i64 ((Z + X * Y) % 9973))).trans (KeepsOthers.drew _))
      have d1 := (e1.set (k := i) ((Z + X * Y) % 9973)).drew
      have d2 := (e2.setElse (p := ⟨gc, i, none⟩) HNE.out (.int .i64 ((Z + X * Y) % 9973))).drew
      have m1 := set_keepS (v := .int .i64 ((Z + X * Y) % 9973)) c1 x1
      have m2 := set_keepS (v := .int .i64 ((Z + X * Y) % 9973)) c2 x1
      have m3 := set_keepS (v := .int .i64 ((Z + X * Y) % 9973)) c3 x1
      have m4 := set_keepS (v := .int .i64 ((Z + X * Y) % 9973)) c4 x1
      have m5 := set_keepS (v := .int .i64 ((Z + X * Y) % 9973)) c5 x1
      have m6 := (c6.setCell (p := ⟨gc, i, none⟩) hlow.out.1 (.int .i64 ((Z + X * Y) % 9973))).drew
      clear e1 e2 c1 c2 c3 c4 c5 c6 KO x1 x2 f1
      replace m1 : ((Wq.setCell ⟨gc, i, none⟩ (.int .i64 ((Z + X * Y) % 9973))).drew).cell? ⟨pc, 0, none⟩ = _ := m1
      replace m2 : ((Wq.setCell ⟨gc, i, none⟩ (.int .i64 ((Z + X * Y) % 9973))).drew).cell? ⟨pr, 0, none⟩ = _ := m2
      replace m3 : ((Wq.setCell ⟨gc, i, none⟩ (.int .i64 ((Z + X * Y) % 9973))).drew).cell? ⟨w.heap.size, 0, none⟩ = _ := m3
      replace m4 : ((Wq.setCell ⟨gc, i, none⟩ (.int .i64 ((Z + X * Y) % 9973))).drew).cell? ⟨w.heap.size + 1, 0, none⟩ = _ := m4
      replace m5 : ((Wq.setCell ⟨gc, i, none⟩ (.int .i64 ((Z + X * Y) % 9973))).drew).cell? ⟨W4.heap.size, 0, none⟩ = _ := m5
      generalize (Wq.setCell ⟨gc, i, none⟩ (.int .i64 ((Z + X * Y) % 9973))).drew = Wr at *
      obtain ⟨gz, hz, _, _, hcR, hfR⟩ := d2.at (by omega)
      cases hz
      have x1 := hcR j hj
      have f1 := hfR j
      obtain ⟨_, _, hz, _, hcv⟩ := (hv.below m6).at hi
      cases hz
      have x2 := hcv i hi
      obtain ⟨V, hV⟩ : ∃ V, ix v i = V := ⟨_, rfl⟩
      have bV : 0 ≤ V ∧ V ≤ 9972 := by rw [← hV]; exact IV.out i (by rw [lv.out]; exact hi)
      rw [hV] at x2
      have HV := Lib.hid hV
      obtain ⟨R0, hR0⟩ : ∃ R0, ix Rs j = R0 := ⟨_, rfl⟩
      have bR : 0 ≤ R0 ∧ R0 ≤ 9972 := by rw [← hR0, e3.out.2 j hj]; exact rowA_bd _ _ _ _ _
      rw [hR0] at x1
      have HR0 := Lib.hid hR0
      have bm := mul_bd bV bX
      have u1 : IntKind.i64.wrap (V * X) = V * X := Go.IntWalk.i64_in _ (by omega)
      have u2 : IntKind.i64.wrap (R0 + V * X) = R0 + V * X := Go.IntWalk.i64_in _ (by omega)
      clear hV hR0 hcR hfR hcv
      gi_wp2
      refine region_round_tail 15 (by kernel_rfl) (by kernel_rfl) (fun ⟨_, _, h⟩ => nomatch (show Exit.outgrown = Exit.normal from h.1)) (by kernel_rfl) ?_
      simp only [List.take_succ_cons, List.take_zero, List.drop_succ_cons, List.drop_zero]
      repeat still_step
      still_call (stillW (Field_any _ _))
      repeat still_step
      refine wpStill_nil ?_
      change wpList _ _ _ _ _ Wr.drew
      clear u1 u2
      go_wp2
      refine ⟨(KO2.trans ((KeepsOthers.setCell _ _ _).trans (KeepsOthers.drew _))).from _, _, _, (d1.setElse (p := ⟨gr, j, none⟩) HNE.out.symm _).drew, (d2.set (k := j) _).drew, ⟨fun r hr => ?_, fun s hs => ?_⟩, set_keepS m1 x1, set_keepS m2 x1, set_keepS m3 x1, set_keepS m4 x1, set_keepS m5 x1, (m6.setCell (p := ⟨gr, j, none⟩) hlow.out.2 _).drew⟩
      · rw [ix_set, hkk.out, d1.len_eq.symm.trans (List.length_set ..) |>.symm]
        by_cases e : i = r
        · subst e
          rw [if_pos ⟨rfl, hi⟩, colA_step A u hj, ← HZ.out, e3.out.1 i hi, hkk.out, HX.out, HY.out]
        · rw [if_neg fun h => e h.1, colA_else A u hj fun h => e h.symm, e3.out.1 r hr, hkk.out]
      · rw [ix_set, hkk.out, d2.len_eq]
        by_cases e : j = s
        · subst e
          rw [if_pos ⟨rfl, hj⟩, rowA_step A v hj, ← HR0.out, e3.out.2 j hj, hkk.out, HX.out, HV.out]
        · rw [if_neg fun h => e h.1, rowA_else A v hj hs fun h => e h.symm, e3.out.2 s hs, hkk.out]
    case done =>
      rintro Dd W hDd ⟨Cs, Rs, e1, e2, e3, c1, c2, c3, c4, c5, c6⟩ hK
      have k5s := k5.size
      clear hI0 k5
      have eC : Hid (∀ i, i < n → ix Cs i = colS n A u i) := fun i hi => by rw [e3.out.1 i hi]; unfold colA colS; rw [seenC_all hi]
      have eR : Hid (∀ j, j < n → ix Rs j = rowS n A v j) := fun j hj => by rw [e3.out.2 j hj]; unfold rowA rowS; rw [seenR_all (by omega)]
      clear e3 h5w
      go_wp2_with fail
      go_loopw [16, 95] (fun x y wr => ∃ (t : Nat) (K : Int), t ≤ n ∧ y = .int .i64 t ∧ x = .int .i64 K ∧ Hid (K = (1 + sumTo (fun i => ix v i * colS n A u i) t) % 9973) ∧ Below W.heap.size W wr) (fun _ y _ => n - (intOf y).toNat)
      case atStart => exact ⟨0, 1, Nat.zero_le _, rfl, rfl, rfl, Below.refl _ _⟩
      case round =>
        obtain ⟨t, K, ht, rfl, rfl, hKK, hb⟩ := hrel
        have bK : 0 ≤ K ∧ K ≤ 9972 := by rw [hKK.out]; omega
        have f1 := e1.below hb
        have d1 := hb.keep (World.block_lt_of_cell? _ _ c1) c1
        have d4 := hb.keep (World.block_lt_of_cell? _ _ c4) c4
        have d6 := below_tr c6 hb
        by_cases htn : t < n
        · obtain ⟨gz, hz, _, _, hcC, _⟩ := f1.at (by omega)
          cases hz
          have x1 := hcC t htn
          obtain ⟨_, _, hz, _, hcv⟩ := (hv.below d6).at htn
          cases hz
          have x2 := hcv t htn
          obtain ⟨V, hV⟩ : ∃ V, ix v t = V := ⟨_, rfl⟩
          have bV : 0 ≤ V ∧ V ≤ 9972 := by rw [← hV]; exact IV.out t (by rw [lv.out]; exact htn)
          rw [hV] at x2
          obtain ⟨Z, hZ⟩ : ∃ Z, ix Cs t = Z := ⟨_, rfl⟩
          have bZ : 0 ≤ Z ∧ Z ≤ 9972 := by rw [← hZ, eC.out t htn]; unfold colS; omega
          rw [hZ] at x1
          have HS : Hid ((K + V * Z) % 9973 = (1 + sumTo (fun i => ix v i * colS n A u i) (t + 1)) % 9973) := by
            unfold Hid
            rw [hKK.out, ← hV, ← hZ, eC.out t htn, Int.emod_add_emod, sumTo, Int.add_assoc]
          have i1 : (t : Int) < (n : Int) := by omega
          have bm := mul_bd bV bZ
          have u1 : IntKind.i64.wrap (V * Z) = V * Z := Go.IntWalk.i64_in _ (by omega)
          have u2 : IntKind.i64.wrap (K + V * Z) = K + V * Z := Go.IntWalk.i64_in _ (by omega)
          clear hV hZ hcC hcv hKK f1
          go_wp2
          go_quiet ((go_at_call 68; exact quietW (Field_any _ _)))
          go_wp2
          go_roundw
          case rel => exact ⟨t + 1, _, by omega, by go_num, rfl, HS, below_tr hb (below_drewN (Below.refl _ _) _)⟩
          case measure => simp [intOf]; omega
        · obtain rfl : n = t := by omega
          have hk0 : Hid (K = chgK n A u v) := hKK
          clear hKK
          by_cases hz0 : K = 0
          · have z : (K == 0) = true := beq_iff_eq.2 hz0
            have HZ := Lib.hid hz0
            clear hz0
            go_wp2
            have hK2 := (hb.block Dd (Array.getElem?_eq_some_iff.1 hK).1).trans hK
            refine ⟨by simp, .inl ⟨_, _, rfl, run_takeDeferred hK2, ?_⟩⟩
            have hgr := grownBy_putObj' wr Dd (.deferred none)
            exact ⟨_, results_tmp2 rfl _ _ _, d6.grown hgr d6.size (fun r e => by cases e; exact Nat.le_trans k5s hDd), .inl ⟨by rw [← hk0.out, HZ.out], rfl⟩⟩
          · have z : (K == 0) = false := beq_eq_false_iff_ne.2 hz0
            have HZ := Lib.hid hz0
            clear hz0
            have CO := Over_any K
            obtain ⟨o, ho⟩ : ∃ o, powm K 9971 = o := ⟨_, rfl⟩
            have bO : 0 ≤ o ∧ o ≤ 9972 := by rw [← ho]; unfold powm; omega
            rw [ho] at CO
            have CO := Lib.hid CO
            have HO := Lib.hid ho
            clear ho
            go_wp2_with (first | (go_at_call 74; (with_reducible refine (CO.out _ bK.1 bK.2).mono ?_); rintro e w4 ⟨rfl, rfl⟩) | (go_at_call 64; refine (Grid_any n n _ (by omega) (by omega)).mono ?_; rintro e w5 ⟨a5, cg, rfl, ho5, b5⟩) | (go_at_call 65; fail))
            obtain ⟨g, D2, C2, hz, hd2⟩ := ho5.named (by omega) (fun r hr => by rw [(Dm.replicate n n 0).2 r hr]; omega)
            cases hz
            have px0 : (wr.alloc (.cells #[.int .i64 o] 3)).cell? ⟨wr.heap.size, 0, none⟩ = some (.int .i64 o) := by simp
            have px := alloc_keep (o := .cells #[.slice (some ⟨g, 0, none⟩) n cg] 22) (b5.keep (World.block_lt_of_cell? _ _ px0) px0)
            have py : (w5.alloc (.cells #[.slice (some ⟨g, 0, none⟩) n cg] 22)).cell? ⟨w5.heap.size, 0, none⟩ = some (.slice (some ⟨g, 0, none⟩) n cg) := by simp
            have b7 := below_al (below_tr (below_al (Below.refl wr.heap.size wr) (.cells #[.int .i64 o] 3)) b5) (.cells #[.slice (some ⟨g, 0, none⟩) n cg] 22)
            have bb := below_tr hb b7
            have hwr := hb.size
            have hd7 := (hd2.mono (B' := w.heap.size) (by have := d6.size; simp; omega)).alloc (.cells #[.slice (some ⟨g, 0, none⟩) n cg] 22)
            have HL : Hid (gc < wr.heap.size ∧ gr < wr.heap.size ∧ Dd < wr.heap.size ∧ ∀ i, i < n → wr.heap.size < D2 i) := ⟨by have := (e1.own.lt gc rfl).2; omega, by have := (e2.own.lt gr rfl).2; omega, by have := (Array.getElem?_eq_some_iff.1 hK).1; omega, fun i hi => by have := (hd2.lowI hi).1; simp at this; omega⟩
            have g1 := e1.below bb
            have g2 := e2.below bb
            have m1 := bb.keep (World.block_lt_of_cell? _ _ c1) c1
            have m2 := bb.keep (World.block_lt_of_cell? _ _ c2) c2
            have m6 := below_tr c6 bb
            have mD := (bb.block Dd (Array.getElem?_eq_some_iff.1 hK).1).trans hK
            clear e1 e2 c1 c2 c3 c4 c5 c6 hK f1 d1 d4 d6 px0 b7 bb hwr b5 ho5 hd2 hb CO z
            generalize w5.alloc (.cells #[.slice (some ⟨g, 0, none⟩) n cg] 22) = W7 at *
            generalize wr.heap.size = PO at *
            generalize w5.heap.size = PG at *
            refine (callsIn_wide.1 (each_in 0 (some ⟨ba, oa, none⟩) n ca W7)).mono ?_
            rintro e w' ⟨rfl, rfl⟩
            go_wp2_with fail
            refine (wpIn_wide (n := 6)).1 ?_
            have hBm : (W7.alloc (.cells #[.slice (some ⟨ba, oa, none⟩) n ca] 22)).cell? ⟨W7.heap.size, 0, none⟩ = some (.slice (some ⟨ba, oa, none⟩) n ca) := by simp
            have k8 := m6.alloc m6.size (.cells #[.slice (some ⟨ba, oa, none⟩) n ca] 22)
            have h8w := k8.size
            have hDl : Dd < (W7.alloc (.cells #[.slice (some ⟨ba, oa, none⟩) n ca] 22)).heap.size := by have := (Array.getElem?_eq_some_iff.1 mD).1; simp; omega
            let I2 : Nat → World → Prop := fun k W => ∃ P, OwMD W w.heap.size 32 3 g D2 C2 n cg P ∧ Hid (Dm n n P ∧ ∀ i j, i < n → j < n → i * n + j < k → en P i j = chgE n A u v i j) ∧ OwI W w2.heap.size 3 (some ⟨gc, 0, none⟩) n n Cs ∧ OwI W w2.heap.size 3 (some ⟨gr, 0, none⟩) n n Rs ∧ W.cell? ⟨PO, 0, none⟩ = some (.int .i64 o) ∧ W.cell? ⟨PG, 0, none⟩ = some (.slice (some ⟨g, 0, none⟩) n cg) ∧ W.cell? ⟨pc, 0, none⟩ = some (.slice (some ⟨gc, 0, none⟩) n n) ∧ W.cell? ⟨pr, 0, none⟩ = some (.slice (some ⟨gr, 0, none⟩) n n) ∧ W.cell? ⟨W7.heap.size, 0, none⟩ = some (.slice (some ⟨ba, oa, none⟩) n ca) ∧ W.heap[Dd]? = some (.deferred (some [])) ∧ Below w.heap.size w W
            have hI0 : I2 0 (W7.alloc (.cells #[.slice (some ⟨ba, oa, none⟩) n ca] 22)) := ⟨_, hd7.alloc _, ⟨Dm.replicate n n 0, fun i j _ _ h => absurd h (Nat.not_lt_zero _)⟩, g1.alloc _, g2.alloc _, alloc_keep px, alloc_keep py, alloc_keep m1, alloc_keep m2, hBm, (((Below.refl W7.heap.size W7).alloc (Nat.le_refl _) _).block Dd (Array.getElem?_eq_some_iff.1 mD).1).trans mD, k8⟩
            clear hd7 g1 g2 px py m1 m2 m6 mD hBm k8
            refine range_on (n := 6) (by decide) (gf := 85) (lb := #[.pointer (some ⟨W7.heap.size, 0, none⟩)]) rfl (enters_of Tryd.func85 (by kernel_rfl) rfl) (encs := encE n fun i j => en A i j) (N := n * n) (fun _ => rfl) I2
              (fun k X Y row hs hgr hr => let ⟨P, e0, e3, e1, e2, c1, c2, c3, c4, c5, cD, c6⟩ := hs; ⟨P, e0.passes hgr (fun r e => (hr r e).2), e3, e1.grown hgr (ownsRow_notCells e1.own fun r e => (hr r e).2), e2.grown hgr (ownsRow_notCells e2.own fun r e => (hr r e).2), cell_kept c1 hgr (fun r e => (hr r e).2), cell_kept c2 hgr (fun r e => (hr r e).2), cell_kept c3 hgr (fun r e => (hr r e).2), cell_kept c4 hgr (fun r e => (hr r e).2), cell_kept c5 hgr (fun r e => (hr r e).2), (hgr.block Dd (Array.getElem?_eq_some_iff.1 cD).1 (fun e => by have := (hr Dd e.symm).1; omega)).trans cD, c6.grown hgr c6.size (fun r e => Nat.le_trans h8w (hr r e).1)⟩)
              (each1_on 5 (n := n) (c := n) (v := fun i j => en A i j) (D := D) (O := O) (C := C) (b := ba) (off := oa) (cap := ca) (by omega) (by omega) I2 fun k W h => let ⟨_, _, _, _, _, _, _, _, _, c5, _, c6⟩ := h; ⟨⟨fun i hi => (hGa.fresh c6).hdr i hi, fun i j hi hj _ => let ⟨x, h1, h2⟩ := (hGa.fresh c6).el i j hi hj; by rw [← h2]; exact h1⟩, c5⟩)
              hI0
              (fun k a' W => ∃ Bx, W.cell? ⟨Bx, 0, none⟩ = some (.int .i64 ((k / n : Nat) : Int)) ∧ W.cell? ⟨Bx, 1, none⟩ = some (.int .i64 ((k % n : Nat) : Int)) ∧ a' = { tmps := #[.slice (some ⟨ba, oa, none⟩) n ca, .slice (some ⟨bu, ou, none⟩) n cb, .slice (some ⟨bv, ov, none⟩) n cd, undef, .pointer (some ⟨w.heap.size, 0, none⟩), .pointer (some ⟨w.heap.size + 1, 0, none⟩), .slice none 0 0, .nilIface, .nilIface, .int .i64 n, .pointer (some ⟨pc, 0, none⟩), .pointer (some ⟨pr, 0, none⟩), undef, undef, undef, undef, .int .i64 K, u17, .pointer (some ⟨PO, 0, none⟩), .pointer (some ⟨PG, 0, none⟩), .pointer (some ⟨Bx, 0, none⟩), .int .i64 (en A (k / n) (k % n)), undef, undef, .slice (some ⟨ba, oa, none⟩) n ca, .nilIface, .nilIface, .bool false, undef, .slice (some ⟨ba, oa, none⟩) n ca, .int .i64 n, .bool false, .slice (some ⟨bu, ou, none⟩) n cb, .int .i64 n, .int .i64 n, .bool false, .bool false, .slice (some ⟨bv, ov, none⟩) n cd, .int .i64 n, .int .i64 n, .bool false, .bool false, undef, .bool false, .slice (some ⟨bu, ou, none⟩) n cb, .bool false, .bool false, .slice (some ⟨bv, ov, none⟩) n cd, .bool false, .bool false, undef, .int .i64 n, .slice (some ⟨gc, 0, none⟩) n n, .int .i64 n, .slice (some ⟨gr, 0, none⟩) n n, .slice (some ⟨ba, oa, none⟩) n ca, .func (.func 85) #[] #[.pointer (some ⟨W4.heap.size, 0, none⟩)], undef, undef, undef, undef, undef, undef, undef, undef, undef, undef, undef, undef, undef, undef, undef, undef, undef, undef, undef, undef, undef, undef, undef, undef, undef, undef, undef, undef, undef, undef, undef, undef, undef, undef, undef, undef, .slice (some ⟨bu, ou, none⟩) n cb, .int .i64 n, .int .i64 n, .bool false, u97, u98, u99, u100, u101, u102, u103, u104, u105, u106, u107, u108, u109, u110, .int .i64 K, .bool false, undef, .int .i64 K, .int .i64 o, .int .i64 n, .int .i64 n, .slice (some ⟨g, 0, none⟩) n cg, .slice (some ⟨ba, oa, none⟩) n ca, .func (.func 85) #[] #[.pointer (some ⟨W7.heap.size, 0, none⟩)], .agg #[.int .i64 ((k / n : Nat) : Int), .int .i64 ((k % n : Nat) : Int)], .int .i64 (en A (k / n) (k % n)), undef, undef, undef, undef, undef, undef, undef, undef, undef, undef, undef, undef, undef, undef, undef, undef, undef, undef, undef, undef, undef, undef, undef, undef, undef, undef], defers := [] })
              (fun a' k X Y row hs hgr hr => let ⟨Bx, e1, e2, e3⟩ := hs; ⟨Bx, cell_kept e1 hgr (fun r e => (hr r e).2), cell_kept e2 hgr (fun r e => (hr r e).2), e3⟩)
              ?assign ?body ?done
            case assign =>
              rintro l k W K hk ⟨P, e0, e3, e1, e2, c1, c2, c3, c4, c5, cD, c6⟩ hK
              dsimp only [encE]
              gi_wp2
              exact hK _ _ ((KeepsOthers.alloc _ _).from _) ⟨P, e0.alloc _, e3, e1.alloc _, e2.alloc _, alloc_keep c1, alloc_keep c2, alloc_keep c3, alloc_keep c4, alloc_keep c5, (((Below.refl W.heap.size W).alloc (Nat.le_refl _) _).block Dd (Array.getElem?_eq_some_iff.1 cD).1).trans cD, c6.alloc c6.size _⟩ ⟨W.heap.size, by simp, by simp, rfl⟩
            case body =>
              rintro l k a' W hk ⟨P, e0, e3, e1, e2, c1, c2, c3, c4, c5, cD, c6⟩ ⟨Bx, y1, y2, rfl⟩
              clear hI0
              obtain ⟨i, hi0⟩ : ∃ i, i = k / n := ⟨_, rfl⟩
              obtain ⟨j, hj0⟩ : ∃ j, j = k % n := ⟨_, rfl⟩
              have hkk : Hid (k = i * n + j) := by unfold Hid; rw [hi0, hj0]; exact (Nat.div_add_mod' k n).symm
              have hi : i < n := by rw [hi0]; exact Nat.div_lt_of_lt_mul hk
              have hj : j < n := by rw [hj0]; exact Nat.mod_lt _ (by omega)
              simp only [← hi0, ← hj0] at y1 y2 ⊢
              clear hi0 hj0 hk
              obtain ⟨X, hX⟩ : ∃ X, en A i j = X := ⟨_, rfl⟩
              have bX : 0 ≤ X ∧ X ≤ 9972 := by rw [← hX]; exact HG.out.ent i j hi hj
              rw [hX]
              have HX := Lib.hid hX
              clear hX
              gi_wp2
              refine region_round_quiet (by kernel_rfl) (by kernel_rfl) (fun ⟨_, _, h⟩ => nomatch (show Exit.outgrown = Exit.normal from h.1)) (by kernel_rfl) ?_
              repeat (go_big_quiet_step (fail))
              refine wpQuiet_nil ?_
              rintro _ ⟨nq, rfl⟩
              have kq := below_drewN (Below.refl W.heap.size W) nq
              have KO := keepsOthers_drewN W nq
              replace e0 := e0.below kq
              replace e1 := e1.below kq
              replace e2 := e2.below kq
              replace c1 := kq.keep (World.block_lt_of_cell? _ _ c1) c1
              replace c2 := kq.keep (World.block_lt_of_cell? _ _ c2) c2
              replace c3 := kq.keep (World.block_lt_of_cell? _ _ c3) c3
              replace c4 := kq.keep (World.block_lt_of_cell? _ _ c4) c4
              replace c5 := kq.keep (World.block_lt_of_cell? _ _ c5) c5
              replace cD := (kq.block Dd (Array.getElem?_eq_some_iff.1 cD).1).trans cD
              replace c6 := below_tr c6 kq
              clear y1 y2 kq
              generalize W.drewN nq = Wq at *
              obtain ⟨gz, hz, _, _, hcC, _⟩ := e1.at (by omega)
              cases hz
              have x1 := hcC i hi
              obtain ⟨gz, hz, _, _, hcR, _⟩ := e2.at (by omega)
              cases hz
              have x2 := hcR j hj
              obtain ⟨Y, hY⟩ : ∃ Y, ix Cs i = Y := ⟨_, rfl⟩
              have bY : 0 ≤ Y ∧ Y ≤ 9972 := by rw [← hY, eC.out i hi]; unfold colS; omega
              rw [hY] at x1
              have HY := Lib.hid hY
              obtain ⟨Z, hZ⟩ : ∃ Z, ix Rs j = Z := ⟨_, rfl⟩
              have bZ : 0 ≤ Z ∧ Z ≤ 9972 := by rw [← hZ, eR.out j hj]; unfold rowS; omega
              rw [hZ] at x2
              have HZ := Lib.hid hZ
              have a1 := e0.cellO hi
              have a2 := e0.cellI hi (j := j) (by rw [e3.out.1.2 i hi]; exact hj)
              have a3 := e0.frozenI hi (by rw [e3.out.1.2 i hi]; omega) j
              rw [e3.out.1.2 i hi] at a1
              have i1 : (i : Int) < (n : Int) := by omega
              have i2 : (j : Int) < (n : Int) := by omega
              have bm := mul_bd bY bZ
              obtain ⟨M, hM⟩ : ∃ M, (Y * Z) % 9973 = M := ⟨_, rfl⟩
              have bM : 0 ≤ M ∧ M ≤ 9972 := by omega
              have bn := mul_bd bM bO
              have u1 : IntKind.i64.wrap (Y * Z) = Y * Z := Go.IntWalk.i64_in _ (by omega)
              have u2 : (Y * Z).tmod 9973 = M := by rw [← hM]; exact Int.tmod_eq_emod_of_nonneg (by omega)
              have u3 : IntKind.i64.wrap M = M := Go.IntWalk.i64_in _ (by omega)
              have u4 : IntKind.i64.wrap (M * o) = M * o := Go.IntWalk.i64_in _ (by omega)
              have u5 : IntKind.i64.wrap (X - M * o) = X - M * o := Go.IntWalk.i64_in _ (by omega)
              have HM2 := Lib.hid hM
              clear hY hZ hcC hcR hM
              gi_wp2
              refine region_round_tail 21 (by kernel_rfl) (by kernel_rfl) (fun ⟨_, _, h⟩ => nomatch (show Exit.outgrown = Exit.normal from h.1)) (by kernel_rfl) ?_
              simp only [List.take_succ_cons, List.take_zero, List.drop_succ_cons, List.drop_zero]
              repeat still_step
              still_call (stillW (Field_any _ _))
              repeat still_step
              refine wpStill_nil ?_
              change wpList _ _ _ _ _ Wq.drew
              clear u1 u2 u3 u4 u5
              go_wp2
              have hDi := HL.out.2.2.2 i hi
              refine ⟨(KO.trans ((KeepsOthers.setCell _ _ _).trans (KeepsOthers.drew _))).from _, _, (e0.set matTy.ne hi _).drew, ⟨e3.out.1.setE _ _ _, fun r s hr hs hrs => ?_⟩, (e1.setElse (p := ⟨D2 i, j, none⟩) (by have := HL.out.1; simp; omega) _).drew, (e2.setElse (p := ⟨D2 i, j, none⟩) (by have := HL.out.2.1; simp; omega) _).drew, set_keep c1 (by simp; omega), set_keepS c2 a2, set_keepS c3 a2, set_keepS c4 a2, set_keepS c5 a2, ((grownBy_setCell Wq ⟨D2 i, j, none⟩ _).block Dd (Array.getElem?_eq_some_iff.1 cD).1 (by have := HL.out.2.2.1; simp; omega)).trans cD, (c6.setCell (p := ⟨D2 i, j, none⟩) (e0.lowI hi).1 _).drew⟩
              rw [e3.out.1.en_set _ hr hs]
              by_cases e : i = r ∧ j = s
              · obtain ⟨rfl, rfl⟩ := e
                rw [if_pos ⟨rfl, rfl⟩]
                unfold chgE
                rw [HX.out, ← eC.out i hi, ← eR.out j hj, HY.out, HZ.out, HM2.out, ← hk0.out, HO.out]
              · rw [if_neg e]
                refine e3.out.2 r s hr hs ?_
                rw [hkk.out] at hrs ⊢
                rcases Nat.lt_or_ge (r * n + s) (i * n + j) with h1 | h1
                · exact h1
                · exfalso
                  have h2 : r * n + s = i * n + j := by omega
                  have p1 := pl_div (i := r) hs
                  have p2 := pl_div (i := i) hj
                  rw [h2] at p1
                  exact e ⟨p2.1.symm.trans p1.1, p2.2.symm.trans p1.2⟩
            case done =>
              rintro De W hDe ⟨P, e0, e3, e1, e2, c1, c2, c3, c4, c5, cD, c6⟩ hK
              go_wp2
              refine ⟨by simp, .inl ⟨_, _, rfl, run_takeDeferred hK, ?_⟩⟩
              have hgr := grownBy_putObj' W De (.deferred none)
              have hno : ∀ r, some De = some r → ∃ o : Obj, W.heap[r]? = some o ∧ o.isCells = false := fun r e => by cases e; exact ⟨_, hK, rfl⟩
              have f0 := e0.passes hgr hno
              have f6 := c6.grown hgr c6.size (fun r e => by cases e; exact Nat.le_trans h8w hDe)
              have fD := (hgr.block Dd (Array.getElem?_eq_some_iff.1 cD).1 (fun e => by cases e; omega)).trans cD
              refine ⟨by simp, .inl ⟨_, _, rfl, run_takeDeferred fD, ?_⟩⟩
              have hgr2 := grownBy_putObj' (W.putObj De (.deferred none)) Dd (.deferred none)
              have hno2 : ∀ r, some Dd = some r → ∃ o : Obj, (W.putObj De (.deferred none)).heap[r]? = some o ∧ o.isCells = false := fun r e => by cases e; exact ⟨_, fD, rfl⟩
              exact ⟨_, results_tmp2 rfl _ _ _, f6.grown hgr2 f6.size (fun r e => by cases e; exact Nat.le_trans k5s hDd), .inr ⟨by rw [← hk0.out]; exact HZ.out, _, _, P, rfl, (f0.passes hgr2 hno2).toM, e3.out.1, fun i j hi hj => e3.out.2 i j hi hj (place_lt hi hj)⟩⟩
end
end Go.Proofs.YtkielldinghmbaaDoor

/-
  append onto a slice of the call's own: where what comes of it lies: in the same block, or in a new one. No program in sight.
  The factors of what takes a matrix to noughts are sums of the determinants along the middle: a row at a time. No program in sight.
  The reference's principal and Char walked.
  CharSays walked: the sum of the middle, and the factors of what takes a matrix to noughts.
-/
import Derived.Test.YtoahegjjffggaaaDoorRows
import Derived.Deep.RegionLaw
import Derived.Test.YtoahegjjffggaaaDoorMg0
import Derived.Test.YtoahegjjffggaaaDoorMg1
import Derived.Test.YtoahegjjffggaaaDoorMg2
import Derived.Test.YtoahegjjffggaaaDoorMg4
import Derived.Test.YtoahegjjffggaaaDoorMg6
import Derived.Test.YtoahegjjffggaaaDoorMg7
import Derived.Test.YtoahegjjffggaaaDoorMg9
namespace Go.Rk
open Go.RowKit

section
variable {P : Program} {T E : TypeId} {B : Nat} {w : World}
theorem run_push_fresh (hT : IntTy P T E) (ty : TypeId) {a : Option Addr} {n cap blk c2 : Nat} {l : List Int} {z : Int} (hown : OwI w B E a n cap l) (hc : w.cell? ⟨blk, 0, none⟩ = some (.int .i64 z)) (hc2 : 1 ≤ c2) (hm2 : c2 ≤ maxLen)
    (hn : (n + 1) * 8 ≤ 140737488355328) (hB : B ≤ w.heap.size) :
    ∃ a' cap' w', (Builtin.append_ #[T, T] ty #[.slice a n cap, .slice (some ⟨blk, 0, none⟩) 1 c2]).run P w = .ok (.slice a' (n + 1) cap') w' ∧ OwI w' B E a' (n + 1) cap' (l ++ [z]) ∧ w.grownBy w' (Value.slice a n cap).ownBlock ∧
      ∀ b, (Value.slice a' (n + 1) cap').ownBlock = some b → some b = (Value.slice a n cap).ownBlock ∨ w.heap.size ≤ b := by
  have hr := RdI.one hc hc2 hm2
  obtain ⟨a', cap', w', hrun, h2, h3⟩ := run_append_ints (ty := ty) hT hown hr hn hB
  refine ⟨a', cap', w', hrun, h2, h3, fun b hb => ?_⟩
  obtain ⟨i, hi, hz, hs, hby⟩ := hT.hi
  rcases hown.own.2 with ⟨hv, h0⟩ | ⟨g, c, cur, hv, _, hg, hnc, hcm, hcs, htake⟩
  · injection hv with v1 v2 v3
    subst v1; subst v2; subst v3
    obtain rfl : l = [] := List.eq_nil_of_length_eq_zero hown.len_eq
    obtain ⟨a2, cap2, w2, hrun2, h4, _⟩ := run_append_ints (ty := ty) (B := w.heap.size) hT (OwI.nil w w.heap.size E) hr hn (Nat.le_refl _)
    rw [hrun] at hrun2
    injection hrun2 with e1 e2
    injection e1 with e3 _ e4
    subst e3
    subst e4
    exact .inr (h4.own.lt b (by rw [← hb])).1
  · injection hv with v1 v2 v3
    subst v1; subst v3
    by_cases hroom : n + 1 ≤ cap
    · have h5 := run_append_room (P := P) w T ty E i hT.ht hi g n cap cur hg ⟨blk, 0, none⟩ 1 c2 [.int .i64 z] (by rw [hs]; rfl) (by simpa using rd_cells hr) (oneCell_ints [z]) hroom (by rw [hs, hcs]; simp; omega)
      rw [hrun] at h5
      injection h5 with e1 e2
      injection e1 with e3 _ _
      subst e3
      exact .inl hb.symm
    · have holds : ∀ j u, (l.map (Value.int .i64))[j]? = some u → w.cell? ((⟨g, 0, none⟩ : Addr).add j) = some u := hown.own.cells (g := g) rfl
      have h5 := run_append_grow (P := P) w T ty E i (.int .i64 0) hT.ht hi hz ⟨g, 0, none⟩ n cap (l.map (Value.int .i64)) (by rw [hs]; simp [hown.len_eq]) holds ⟨blk, 0, none⟩ 1 c2 [.int .i64 z] (by rw [hs]; rfl) (by simpa using rd_cells hr) (by omega) (by omega) (growslice_fits (by omega) (by rw [hby]; exact hn))
      rw [hrun] at h5
      injection h5 with e1 e2
      injection e1 with e3 _ _
      subst e3
      right
      injection hb with hb
      rw [← hb]
      exact Nat.le_refl _

/-- append(s, z), and where it lies. -/
theorem wpList_push_int2 (hT : IntTy P T E) {ops : Array Oper} {rest : List Oper} {o : Oper} {ac : Act} {Q : Exit → Act → World → Prop} (hgd : o.guard = none) (s x : Operand)
    (ho : o.op = .call { callee := .builtin .append, args := #[s, x], argTypes := #[T, T] })
    {a : Option Addr} {n cap blk c2 : Nat} {l : List Int} {z : Int} (hs : ac.eval s = .slice a n cap) (hx : ac.eval x = .slice (some ⟨blk, 0, none⟩) 1 c2) (hown : OwI w B E a n cap l)
    (hc : w.cell? ⟨blk, 0, none⟩ = some (.int .i64 z)) (hc2 : 1 ≤ c2) (hm2 : c2 ≤ maxLen) (hn : (n + 1) * 8 ≤ 140737488355328) (hB : B ≤ w.heap.size)
    (h : ∀ a' cap' w', OwI w' B E a' (n + 1) cap' (l ++ [z]) → w.grownBy w' (Value.slice a n cap).ownBlock → (∀ b, (Value.slice a' (n + 1) cap').ownBlock = some b → some b = (Value.slice a n cap).ownBlock ∨ w.heap.size ≤ b) → wpList P ops Q rest (ac.put o.dst (.slice a' (n + 1) cap')) w') : wpList P ops Q (o :: rest) ac w := by
  refine wpList_plain hgd fun K hK => ?_
  obtain ⟨a', cap', w', hrun, h2, h3, h4⟩ := run_push_fresh (ty := o.type) hT hown hc hc2 hm2 hn hB
  unfold Oper.wp execOp
  simp only [ho, resolve, invoke, builtin, Sem.run_bind, Sem.run_pure, Result.andThen_ok, List.map_toArray, List.map_cons, List.map_nil, hs, hx, hrun]
  exact hK _ _ (h a' cap' w' h2 h3 h4)
/-- The same as one step of a region that draws its order. -/
theorem step_push_int2 (hT : IntTy P T E) {ops : Array Oper} {o : Oper} {ac : Act} {K : Act → World → Prop} {Q : Exit → Act → World → Prop} {F : Prop} (hgd : o.guard = none) (s x : Operand)
    (ho : o.op = .call { callee := .builtin .append, args := #[s, x], argTypes := #[T, T] })
    {a : Option Addr} {n cap blk c2 : Nat} {l : List Int} {z : Int} (hs : ac.eval s = .slice a n cap) (hx : ac.eval x = .slice (some ⟨blk, 0, none⟩) 1 c2) (hown : OwI w B E a n cap l)
    (hc : w.cell? ⟨blk, 0, none⟩ = some (.int .i64 z)) (hc2 : 1 ≤ c2) (hm2 : c2 ≤ maxLen) (hn : (n + 1) * 8 ≤ 140737488355328) (hB : B ≤ w.heap.size)
    (h : ∀ a' cap' w', OwI w' B E a' (n + 1) cap' (l ++ [z]) → w.grownBy w' (Value.slice a n cap).ownBlock → (∀ b, (Value.slice a' (n + 1) cap').ownBlock = some b → some b = (Value.slice a n cap).ownBlock ∨ w.heap.size ≤ b) → K (ac.put o.dst (.slice a' (n + 1) cap')) w') :
    if Region.wanted o (yielded ops ac.tmps) = true then Oper.wp P o ac w K Q else F := by
  have hw : Region.wanted o (yielded ops ac.tmps) = true := by simp [Region.wanted, hgd]
  rw [if_pos hw]
  obtain ⟨a', cap', w', hrun, h2, h3, h4⟩ := run_push_fresh (ty := o.type) hT hown hc hc2 hm2 hn hB
  unfold Oper.wp execOp
  simp only [ho, resolve, invoke, builtin, Sem.run_bind, Sem.run_pure, Result.andThen_ok, List.map_toArray, List.map_cons, List.map_nil, hs, hx, hrun]
  exact h a' cap' w' h2 h3 h4
end
end Go.Rk
namespace Go.Rk
open Go.RowKit

/-- The place: those that are had, then from one on. -/
def hx (h : List Int) (f r : Nat) : Nat := if r < h.length then (ix h r).toNat else f + (r - h.length)
def partP (A : Mx) (h : List Int) : Mx := fun r c => A (ix h r).toNat (ix h c).toNat
def dM (A : Mx) (h : List Int) (f : Nat) (x : Int) : Mx := fun r c => (if h.length ≤ r ∧ r = c then x else 0) - A (hx h f r) (hx h f c)
def dP (A : Mx) (d : Nat) (h : List Int) (f : Nat) (x : Int) : Int := det (h.length + d) (dM A h f x)
theorem hx_skip (h : List Int) (f r : Nat) : hx h f (skip h.length r) = hx h (f + 1) r := by
  unfold hx skip
  by_cases e : r < h.length
  · rw [if_pos e, if_pos e, if_pos e]
  · rw [if_neg e, if_neg e, if_neg (by omega)]; omega
theorem hx_more (h : List Int) (f r : Nat) : hx (h ++ [(f : Int)]) (f + 1) r = hx h f r := by
  unfold hx
  rw [List.length_append, List.length_singleton]
  by_cases e : r < h.length
  · rw [if_pos e, if_pos (by omega), ix_append_left e]
  · rw [if_neg e]
    by_cases e2 : r = h.length
    · rw [if_pos (by omega), ix_append_right (by omega), e2, Nat.sub_self]
      show ((f : Int)).toNat = f + 0
      omega
    · rw [if_neg (by omega)]; omega
theorem dP_step (A : Mx) (d : Nat) (h : List Int) (f : Nat) (x : Int) : dP A (d + 1) h f x = x * dP A d h (f + 1) x + dP A d (h ++ [(f : Int)]) (f + 1) x := by
  have hm : h.length < h.length + (d + 1) := by omega
  have e1 : dM A h f x = setRow (dM A h f x) h.length (fun c => x * unit_ h.length c + (-A (hx h f h.length) (hx h f c))) := by
    funext r c
    unfold setRow
    by_cases e : r = h.length
    · rw [if_pos e, e]
      unfold dM unit_
      dsimp only
      by_cases e2 : c = h.length
      · rw [if_pos ⟨Nat.le_refl _, e2.symm⟩, if_pos e2]; omega
      · rw [if_neg (fun q => e2 q.2.symm), if_neg e2]; omega
    · rw [if_neg e]
  have e2 : dP A (d + 1) h f x = det (h.length + (d + 1)) (setRow (dM A h f x) h.length (fun c => x * unit_ h.length c + (-A (hx h f h.length) (hx h f c)))) := by rw [← e1]; rfl
  rw [e2, det_row_lin (dM A h f x) hm (unit_ h.length) (fun c => -A (hx h f h.length) (hx h f c)) x, det_unit_row _ hm]
  have e3 : adj (h.length + (d + 1)) (dM A h f x) h.length h.length = dP A d h (f + 1) x := by
    unfold adj
    rw [sg_add, sg_sq, Int.one_mul, show h.length + (d + 1) - 1 = h.length + d by omega]
    refine det_congr fun r c _ _ => ?_
    unfold minor dM
    rw [hx_skip, hx_skip]
    congr 1
    have k1 : (h.length ≤ skip h.length r ∧ skip h.length r = skip h.length c) ↔ (h.length ≤ r ∧ r = c) := by
      unfold skip
      split <;> split <;> omega
    by_cases q : h.length ≤ r ∧ r = c
    · rw [if_pos q, if_pos (k1.2 q)]
    · rw [if_neg q, if_neg (fun w => q (k1.1 w))]
  have e4 : det (h.length + (d + 1)) (setRow (dM A h f x) h.length (fun c => -A (hx h f h.length) (hx h f c))) = dP A d (h ++ [(f : Int)]) (f + 1) x := by
    unfold dP
    rw [List.length_append, List.length_singleton, show h.length + (d + 1) = h.length + 1 + d by omega]
    refine det_congr fun r c _ _ => ?_
    unfold setRow dM
    rw [hx_more, hx_more, List.length_append, List.length_singleton]
    by_cases e : r = h.length
    · rw [if_pos e, if_neg (by omega), e]; dsimp only; omega
    · rw [if_neg e]
      by_cases q : h.length ≤ r ∧ r = c
      · rw [if_pos q, if_pos (by omega)]
      · rw [if_neg q, if_neg (by omega)]
  rw [e3, e4]

/-- The sum of the determinants that have so many more, from one on. -/
def eS (A : Mx) : Nat → Nat → List Int → Nat → Int
  | 0, _, h, 0 => det h.length (partP A h)
  | 0, _, _, _ + 1 => 0
  | d + 1, f, h, 0 => eS A d (f + 1) h 0
  | d + 1, f, h, m + 1 => eS A d (f + 1) h (m + 1) + eS A d (f + 1) (h ++ [(f : Int)]) m
theorem eS_none (A : Mx) : ∀ d f h, eS A d f h 0 = det h.length (partP A h)
  | 0, _, _ => rfl
  | d + 1, f, h => eS_none A d (f + 1) h
theorem eS_more (A : Mx) : ∀ d f h m, d < m → eS A d f h m = 0
  | 0, _, _, 0, e => absurd e (Nat.lt_irrefl 0)
  | 0, _, _, _ + 1, _ => rfl
  | d + 1, _, _, 0, e => absurd e (Nat.not_lt_zero _)
  | d + 1, f, h, m + 1, e => by
    show eS A d (f + 1) h (m + 1) + eS A d (f + 1) (h ++ [(f : Int)]) m = 0
    rw [eS_more A d (f + 1) h (m + 1) (by omega), eS_more A d (f + 1) _ m (by omega)]
    rfl
theorem eS_loop (A : Mx) (m : Nat) (h : List Int) : ∀ d f, eS A d f h (m + 1) = sumTo (fun t => eS A (d - 1 - t) (f + t + 1) (h ++ [((f + t : Nat) : Int)]) m) d
  | 0, _ => rfl
  | d + 1, f => by
    show eS A d (f + 1) h (m + 1) + eS A d (f + 1) (h ++ [(f : Int)]) m = _
    rw [sumTo_succ_left, eS_loop A m h d (f + 1), Int.add_comm]
    congr 1
    refine sumTo_congr fun t ht => ?_
    rw [show d + 1 - 1 - (t + 1) = d - 1 - t by omega, show f + (t + 1) + 1 = f + 1 + t + 1 by omega, show f + (t + 1) = f + 1 + t by omega]
theorem dP_eq (A : Mx) (x : Int) : ∀ d f h, dP A d h f x = sumTo (fun m => sg (h.length + m) * (x ^ (d - m) * eS A d f h m)) (d + 1) := by
  intro d
  induction d with
  | zero =>
    intro f h
    have e1 : dP A 0 h f x = det h.length (fun i j => -1 * partP A h i j) := det_congr fun r c hr hc => by
      unfold dM hx partP
      rw [Nat.add_zero] at hr hc
      rw [if_neg (by omega), if_pos hr, if_pos hc]
      omega
    rw [e1, det_scale, neg_one_pow]
    show _ = 0 + sg (h.length + 0) * (x ^ 0 * det h.length (partP A h))
    rw [Nat.add_zero, Int.pow_zero, Int.one_mul, Int.zero_add]
  | succ d ih =>
    intro f h
    rw [dP_step, ih (f + 1) h, ih (f + 1) (h ++ [(f : Int)]), sumTo_succ_left (fun m => sg (h.length + m) * (x ^ (d + 1 - m) * eS A (d + 1) f h m)) (d + 1)]
    have e1 : sumTo (fun m => sg (h.length + (m + 1)) * (x ^ (d + 1 - (m + 1)) * eS A (d + 1) f h (m + 1))) (d + 1) =
        sumTo (fun m => sg (h.length + (m + 1)) * (x ^ (d - m) * eS A d (f + 1) h (m + 1))) (d + 1) + sumTo (fun m => sg ((h ++ [(f : Int)]).length + m) * (x ^ (d - m) * eS A d (f + 1) (h ++ [(f : Int)]) m)) (d + 1) := by
      rw [← sumTo_add]
      refine sumTo_congr fun m _ => ?_
      rw [show d + 1 - (m + 1) = d - m by omega, List.length_append, List.length_singleton, show h.length + 1 + m = h.length + (m + 1) by omega]
      show sg (h.length + (m + 1)) * (x ^ (d - m) * (eS A d (f + 1) h (m + 1) + eS A d (f + 1) (h ++ [(f : Int)]) m)) = _
      grind
    have e2 : x * sumTo (fun m => sg (h.length + m) * (x ^ (d - m) * eS A d (f + 1) h m)) (d + 1) = sumTo (fun m => sg (h.length + m) * (x ^ (d + 1 - m) * eS A d (f + 1) h m)) (d + 2) := by
      rw [show d + 2 = d + 1 + 1 from rfl, sumTo.eq_2 (fun m => sg (h.length + m) * (x ^ (d + 1 - m) * eS A d (f + 1) h m)) (d + 1), eS_more A d (f + 1) h (d + 1) (by omega), ← sumTo_mul]
      rw [sumTo_congr (h := fun m => sg (h.length + m) * (x ^ (d + 1 - m) * eS A d (f + 1) h m)) fun m hm => by
        rw [show d + 1 - m = d - m + 1 by omega, Int.pow_succ]; grind]
      simp
    rw [e1, e2, sumTo_succ_left (fun m => sg (h.length + m) * (x ^ (d + 1 - m) * eS A d (f + 1) h m)) (d + 1)]
    have e3 : sumTo (fun m => sg (h.length + (m + 1)) * (x ^ (d + 1 - (m + 1)) * eS A d (f + 1) h (m + 1))) (d + 1) = sumTo (fun m => sg (h.length + (m + 1)) * (x ^ (d - m) * eS A d (f + 1) h (m + 1))) (d + 1) := sumTo_congr fun m _ => by
      rw [show d + 1 - (m + 1) = d - m by omega]
    rw [e3]
    show _ = sg (h.length + 0) * (x ^ (d + 1 - 0) * eS A d (f + 1) h 0) + _
    omega
theorem sumTo_back (F : Nat → Int) (n : Nat) : sumTo F (n + 1) = sumTo (fun k => F (n - k)) (n + 1) := by
  rw [sumTo_rev F (n + 1)]
  refine sumTo_congr fun k _ => ?_
  rw [show n + 1 - 1 - k = n - k by omega]
/-- The factor at j, from the sums. -/
theorem FL.sums {n : Nat} {A : Mx} {e : Nat → Int} {b : Nat → Mx} (F : FL n A e b) {k : Nat} (hk : k ≤ n) : e (n - k) = sg k * eS A n 0 [] k := by
  have h1 : ∀ x, pv e (n + 1) x = pv (fun j => sg (n - j) * eS A n 0 [] (n - j)) (n + 1) x := fun x => by
    rw [← F.chi]
    have e1 : det n (chiM A x) = dP A n [] 0 x := by
      unfold dP
      rw [show ([] : List Int).length + n = n from Nat.zero_add n]
      refine det_congr fun i j _ _ => ?_
      unfold chiM linM dM hx idM unit_
      show x * (if j = i then 1 else 0) + -A i j = (if 0 ≤ i ∧ i = j then x else 0) - A (0 + i) (0 + j)
      rw [Nat.zero_add, Nat.zero_add]
      by_cases q : i = j
      · rw [if_pos q.symm, if_pos ⟨Nat.zero_le _, q⟩]; omega
      · rw [if_neg (fun w => q w.symm), if_neg (fun w => q w.2)]; omega
    rw [e1, dP_eq, sumTo_back]
    unfold pv
    refine sumTo_congr fun j hj => ?_
    rw [show ([] : List Int).length + (n - j) = n - j from Nat.zero_add _, show n - (n - j) = j by omega]
    grind
  have := pv_same 0 (fun x _ => h1 x) (n - k) (by omega)
  rw [this, show n - (n - k) = k by omega]
end Go.Rk
namespace Go.Proofs.YtoahegjjffggaaaDoor
open Go.RowKit Go.Rk

set_option maxHeartbeats 8000000 in
set_option maxRecDepth 100000 in
theorem principal_any {n : Nat} {A : List (List Int)} (G : Good n n A) : ∀ (d f m L : Nat) (h : List Int) (a ah : Option Addr) (ca ch : Nat) (F K : Int) (w : World) (_ : f + d = n) (_ : F = (f : Int)) (_ : K = ((L + m : Nat) : Int)) (_ : RdM w a n ca A) (_ : RdI w ah L ch h) (_ : ∀ r, r < L → 0 ≤ ix h r ∧ ix h r < n) (_ : L + d ≤ n) (_ : m ≤ 5),
    Calls Tryd.prog 29 #[.slice a n ca, .int .i64 F, .slice ah L ch, .int .i64 K] w fun e w' => e = .returned (.int .i64 (eS (mx A) d f h m % 9973)) ∧ Below w.heap.size w w' := by
  intro d
  induction d using Nat.strongRecOn with
  | ind d ih =>
  intro f m L h a ah ca ch F K w hfd hF hK hA hh hin hLd hm
  have HM := Lib.hid matTy
  have HG := Lib.hid G
  have IH := Lib.hid ih
  have n1 := G.n1
  have HL := Lib.hid hh.len_eq
  have HIN := Lib.hid hin
  have lm := hA.len_max
  obtain ⟨k, hk⟩ : ∃ k, k = L + m := ⟨_, rfl⟩
  rw [← hk] at hK
  subst hK hF
  clear ih hin G
  rcases m with _ | m
  · obtain rfl : k = L := by omega
    have z0 : ((k : Int) == (k : Int)) = true := beq_iff_eq.2 rfl
    clear hk IH
    have hkn : k ≤ n := by omega
    go_enter Tryd.func29, Tryd.ntmps29
    go_wp2
    go_loopw [9, 10] (fun v x wr => ∃ (i : Nat) (q : Option Addr) (cq : Nat), i ≤ k ∧ x = .int .i64 i ∧ v = .slice q i cq ∧ OwM wr w.heap.size 24 3 q i cq (rowsF (partP (mx A) h) k i) ∧ Below w.heap.size w wr) (fun _ x _ => k - (intOf x).toNat)
    case atStart => exact ⟨0, none, 0, Nat.zero_le _, rfl, rfl, OwM.nil _ _ _ _, Below.refl _ _⟩
    case round =>
      obtain ⟨i, q, cq, hi, rfl, rfl, ho, hb⟩ := hrel
      obtain ⟨wo, hwo⟩ : ∃ x, x = wr := ⟨_, rfl⟩
      subst hwo
      have hsz := hb.size
      by_cases hik : i < k
      · have i1 : (i : Int) < (k : Int) := by omega
        obtain ⟨bh, oh, rfl, hbh, hch⟩ := hh.at (k := 0) (by omega)
        obtain ⟨p, hp⟩ : ∃ p, p = (ix h i).toNat := ⟨_, rfl⟩
        have hpi : ix h i = (p : Int) := by have := HIN.out i hik; omega
        have hpn : p < n := by have := HIN.out i hik; omega
        have i2 : (p : Int) < (n : Int) := by omega
        have HP := Lib.hid hp
        obtain ⟨ba, oa, rfl, ar, cr, e1, e2⟩ := hA.rowIn HG.out.dm hpn
        have hbl := World.block_lt_of_cell? _ _ e1
        obtain ⟨pr, orr, rfl, hprl, hcc⟩ := e2.at (k := 0) (by omega)
        have CH := Lib.hid hch
        have CC := Lib.hid hcc
        have y1 := hb.keep hbh (CH.out i hik)
        rw [hpi] at y1
        clear hp e2 hch hcc y1
        go_wp2
        go_loopw [11, 12] (fun v x wt => ∃ (j : Nat) (p2 : Option Addr) (cp : Nat), j ≤ k ∧ x = .int .i64 j ∧ v = .slice p2 j cp ∧ OwI wt wo.heap.size 3 p2 j cp (rowF (partP (mx A) h i) j) ∧ Below wo.heap.size wo wt) (fun _ x _ => k - (intOf x).toNat)
        case atStart => exact ⟨0, none, 0, Nat.zero_le _, rfl, rfl, OwI.nil _ _ _, Below.refl _ _⟩
        case round =>
          obtain ⟨j, p2, cp, hj, rfl, rfl, hp2, hbt⟩ := hrel
          by_cases hjk : j < k
          · have i3 : (j : Int) < (k : Int) := by omega
            have kt := hb.trans (hbt.mono hsz)
            obtain ⟨s, hs⟩ : ∃ s, s = (ix h j).toNat := ⟨_, rfl⟩
            have hsj : ix h j = (s : Int) := by have := HIN.out j hjk; omega
            have hsn : s < n := by have := HIN.out j hjk; omega
            have i4 : (s : Int) < (n : Int) := by omega
            have y1 := kt.keep hbh (CH.out i hik)
            rw [hpi] at y1
            have y2 := kt.keep hbh (CH.out j hjk)
            rw [hsj] at y2
            have y3 := kt.keep hbl e1
            have y4 := kt.keep hprl (CC.out s hsn)
            have HZ : Hid (ix (rowOf A p) s = partP (mx A) h i j) := by
              unfold Hid partP
              rw [← HP.out, ← hs]
              rfl
            obtain ⟨z, hz⟩ : ∃ z, z = ix (rowOf A p) s := ⟨_, rfl⟩
            rw [← hz] at y4 HZ
            have hs1 := hbt.size
            have x1 := alloc_keep (o := .cells #[.int .i64 z] 3) y1
            have x2 := alloc_keep (o := .cells #[.int .i64 z] 3) y2
            have x3 := alloc_keep (o := .cells #[.int .i64 z] 3) y3
            have x4 := alloc_keep (o := .cells #[.int .i64 z] 3) y4
            clear hs hz
            go_wp2_with fail
            go_region_law ((first | (refine step_push_int2 HM.out.int rfl (.tmp 30) (.tmp 44) rfl rfl rfl (hp2.drew.alloc _) (z := z) (by simp) (by decide) (by decide) (by omega) (by simp; omega) ?_; intro a4 c4 w4 ho4 hg4 hn4)))
            all_goals
              have hb4 := below_grown (hbt.drew.alloc (by simpa using hbt.size) (.cells #[.int .i64 z] 3)) (hp2.drew.alloc _) (by simp; omega) hg4
              go_wp2
              go_roundw
              case rel => exact ⟨j + 1, a4, c4, by omega, by go_num, rfl, by rw [rowF_succ, ← HZ.out]; exact ho4, hb4⟩
              case measure => simp [intOf]; omega
          · obtain rfl : k = j := by omega
            go_wp2_with (first | (at_builtin; refine wpList_push_row HM.out rfl (.tmp 46) (.tmp 48) rfl rfl rfl ho (hbt.alloc hbt.size _) (hp2.alloc _) (by simp) (by omega) hsz ?_; intro a5 c5 w5 ho5 hb5))
            go_roundw
            case rel => exact ⟨i + 1, a5, c5, by omega, by go_num, rfl, by rw [rowsF_succ]; exact ho5, (hb.trans ((hbt.alloc hbt.size _).mono hsz)).trans (hb5.mono (Nat.le_refl _))⟩
            case measure => simp [intOf]; omega
      · obtain rfl : k = i := by omega
        have D := rowsF_is (partP (mx A) h) k k
        have EP : Ent 0 9972 k (rowsF (partP (mx A) h) k k) := fun i j hi hj => by
          rw [D.2 i j hi hj]
          have h1 := HIN.out i hi
          have h2 := HIN.out j hj
          exact HG.out.ent _ _ (by omega) (by omega)
        go_wp2_with (go_at_call 55; fail)
        refine (R_DetMod_any k ho.rd D.1 EP (by omega)).mono ?_
        rintro e w5 ⟨rfl, b5⟩
        have HE : Hid (det k (mx (rowsF (partP (mx A) h) k k)) % 9973 = eS (mx A) d f h 0 % 9973) := by
          unfold Hid
          rw [eS_none, HL.out]
          exact congrArg (· % 9973) (det_congr fun i j hi hj => D.2 i j hi hj)
        rw [HE.out]
        have k5 := below_tr hb b5
        go_wp2
        go_ret
        exact ⟨rfl, k5⟩
  · have z0 : ((L : Int) == (k : Int)) = false := beq_eq_false_iff_ne.2 (by omega)
    have HK := Lib.hid hk
    have hLn : L ≤ n := by omega
    have HFD := Lib.hid hfd
    clear hk
    go_enter Tryd.func29, Tryd.ntmps29
    go_wp2
    go_loopw [13, 14] (fun v x wr => ∃ (t i : Nat) (S : Int), t ≤ d ∧ Hid (i = f + t) ∧ i ≤ n ∧ x = .int .i64 i ∧ v = .int .i64 S ∧ 0 ≤ S ∧ S ≤ 9972 ∧ Hid (S = sumTo (fun t => eS (mx A) (d - 1 - t) (f + t + 1) (h ++ [((f + t : Nat) : Int)]) m) t % 9973) ∧ Below w.heap.size w wr) (fun _ x _ => n - (intOf x).toNat)
    case atStart => exact ⟨0, f, 0, Nat.zero_le _, rfl, by omega, rfl, rfl, by omega, by omega, rfl, Below.refl _ _⟩
    case round =>
      obtain ⟨t, i, S, ht, hi, hin, rfl, rfl, hS1, hS2, hS, hb⟩ := hrel
      obtain ⟨wo, hwo⟩ : ∃ x, x = wr := ⟨_, rfl⟩
      subst hwo
      by_cases hlt : i < n
      · have i1 : (i : Int) < (n : Int) := by omega
        have htd : t < d := by have := hi.out; have := HFD.out; omega
        have HIN2 : Hid (∀ r, r < L + 1 → 0 ≤ ix (h ++ [(i : Int)]) r ∧ ix (h ++ [(i : Int)]) r < n) := fun r hr => by
          rcases Nat.lt_or_ge r L with h1 | h1
          · rw [ix_append_left (by rw [HL.out]; exact h1)]; exact HIN.out r h1
          · obtain rfl : r = L := by omega
            rw [ix_append_right (by rw [HL.out]; exact Nat.le_refl _), HL.out, Nat.sub_self]
            show 0 ≤ (i : Int) ∧ (i : Int) < n
            omega
        have hh2 := hh.below hb
        have hA2 := hA.below hb
        go_wp2_with (first
          | (at_builtin; refine wpList_append_ints HM.out.int rfl (.tmp 59) (.tmp 60) rfl rfl rfl (OwI.nil wo wo.heap.size _) hh2 (by omega) (Nat.le_refl _) ?_; intro a3 cap3 w3 ho3 hg3; have hb3 := below_of_grown hg3; rw [Nat.zero_add, List.nil_append] at ho3; have hs3 := hb3.size)
          | (at_builtin; refine wpList_push_int HM.out.int rfl (.tmp 62) (.tmp 64) rfl rfl rfl (ho3.alloc _) (z := (i : Int)) (by simp) (by decide) (by decide) (by omega) (by simp; omega) ?_; intro a4 c4 w4 ho4 hg4; have hb4 := below_grown (hb3.alloc hs3 (.cells #[.int .i64 (i : Int)] 3)) (ho3.alloc _) (by simp; omega) hg4)
          | (go_at_call 29; fail))
        refine (IH.out (d - 1 - t) (by omega) (i + 1) m (L + 1) (h ++ [(i : Int)]) _ _ _ _ _ _ _ (by have := hi.out; have := HFD.out; omega) (by omega) (by rw [HK.out]; omega) (hA2.below hb4) ho4.rd HIN2.out (by omega) (by omega)).mono ?_
        rintro e w5 ⟨rfl, b5⟩
        have k5 := below_tr (below_tr hb hb4) b5
        obtain ⟨v, hv⟩ : ∃ v, v = eS (mx A) (d - 1 - t) (i + 1) (h ++ [(i : Int)]) m % 9973 := ⟨_, rfl⟩
        have bv : 0 ≤ v ∧ v ≤ 9972 := by omega
        rw [← hv]
        have HV : Hid ((S + v) % 9973 = sumTo (fun t => eS (mx A) (d - 1 - t) (f + t + 1) (h ++ [((f + t : Nat) : Int)]) m) (t + 1) % 9973) := by
          unfold Hid
          rw [sumTo, hS.out, hv, hi.out]
          omega
        have u1 : IntKind.i64.wrap (S + v) = S + v := Go.IntWalk.i64_in _ (by omega)
        clear hv
        go_wp2_with (first | (go_at_call 7; refine (R_Mod_any _ _ (by omega) (by omega)).mono ?_; rintro e w' ⟨rfl, rfl⟩))
        have b6 : 0 ≤ (S + v) % 9973 ∧ (S + v) % 9973 ≤ 9972 := by omega
        go_roundw
        case rel => exact ⟨t + 1, i + 1, _, by omega, by have := hi.out; show i + 1 = f + (t + 1); omega, by omega, by go_num, rfl, b6.1, b6.2, HV, k5⟩
        case measure => simp [intOf]; omega
      · obtain rfl : n = i := by omega
        have hS2 : Hid (S = eS (mx A) d f h (m + 1) % 9973) := by
          have e1 := hi.out
          have e2 := HFD.out
          obtain rfl : t = d := by omega
          unfold Hid
          rw [hS.out, eS_loop]
        have hS3 : S = eS (mx A) d f h (m + 1) % 9973 := hS2.out
        go_wp2
        go_ret
        exact ⟨by rw [← hS3]; rfl, hb⟩
set_option maxHeartbeats 8000000 in
set_option maxRecDepth 100000 in
theorem M_Char_any {n : Nat} {A : List (List Int)} {a : Option Addr} {ca : Nat} {eF : Nat → Int} {b : Nat → Mx} {w : World} (hA : RdM w a n ca A) (G : Good n n A) (F : FL n (mx A) eF b) :
    Calls Tryd.prog 8 #[.slice a n ca] w fun e w' => ∃ a' c' l, e = .returned (.slice a' (n + 1) c') ∧ RdI w' a' (n + 1) c' l ∧ (∀ k, k ≤ n → ix l k = eF k % 9973) ∧ Below w.heap.size w w' := by
  have HIT := Lib.hid intTy
  have HG := Lib.hid G
  have HF := Lib.hid F
  have n1 := G.n1
  have lm := hA.len_max
  clear G F
  have t1 : ((n : Int) + 1).toNat = n + 1 := by omega
  go_enter Tryd.func8, Tryd.ntmps8
  go_wp2_with (first | (at_make; refine wpList_make_ints HIT.out rfl (.tmp 10) (.tmp 10) (n := n + 1) rfl rfl rfl (by omega) ?_; intro w2 ho2 hb2))
  generalize List.replicate (n + 1) (0 : Int) = l0 at *
  go_loopw [5, 6] (fun u v wr => ∃ (k : Nat) (g : Int) (l : List Int), k ≤ n + 1 ∧ v = .int .i64 k ∧ u = .int .i64 g ∧ Hid (g = sg k) ∧ (g = 1 ∨ g = -1) ∧ OwI wr w.heap.size 3 (some ⟨w.heap.size, 0, none⟩) (n + 1) (n + 1) l ∧ Hid (∀ j, n < j + k → j ≤ n → ix l j = eF j % 9973) ∧ Below w.heap.size w wr) (fun _ v _ => n + 1 - (intOf v).toNat)
  case atStart => exact ⟨0, 1, l0, Nat.zero_le _, rfl, rfl, rfl, .inl rfl, ho2, fun j h1 h2 => by omega, hb2⟩
  case round =>
    clear ho2 hb2
    obtain ⟨k, g, l, hk, rfl, rfl, hg, hg1, hx, hl, hb⟩ := hrel
    have ug : IntKind.i64.wrap (-g) = -g := Go.IntWalk.i64_in _ (by omega)
    by_cases hlt : k ≤ n
    · have i1 : (k : Int) ≤ (n : Int) := by omega
      have i2 : (0 : Int) ≤ (n : Int) - k := by omega
      have u3 : IntKind.i64.wrap ((n : Int) - k) = (n : Int) - k := Go.IntWalk.i64_in _ (by omega)
      have t3 : ((n : Int) - k).toNat = n - k := by omega
      have b3 : (n : Int) - k < ((n + 1 : Nat) : Int) := by omega
      have b5 : (n : Int) - k < (n : Int) + 1 := by omega
      have HLL := Lib.hid hx.len_eq
      go_wp2_with (go_at_call 29; fail)
      refine (principal_any HG.out n 0 k 0 [] a none ca 0 0 (k : Int) _ (by omega) rfl (by omega) (hA.below hb) (RdI.nil _) (fun r hr => absurd hr (Nat.not_lt_zero r)) (by omega) (by omega)).mono ?_
      rintro e w5 ⟨rfl, b6⟩
      have k5 := below_tr hb b6
      have hx5 := hx.below b6
      obtain ⟨v, hv⟩ : ∃ v, v = eS (mx A) n 0 [] k % 9973 := ⟨_, rfl⟩
      have bv : 0 ≤ v ∧ v ≤ 9972 := by omega
      rw [← hv]
      obtain ⟨T, hT⟩ : ∃ T, g * v = T := ⟨_, rfl⟩
      have bT : -9972 ≤ T ∧ T ≤ 9972 := by rcases hg1 with e | e <;> rw [← hT, e] <;> omega
      have u1 : IntKind.i64.wrap (g * v) = T := by rw [hT]; exact Go.IntWalk.i64_in _ (by omega)
      obtain ⟨c, hc⟩ : ∃ c, T % 9973 = c := ⟨_, rfl⟩
      have CM : Hid (∀ w, Calls Tryd.prog 7 #[.int .i64 T] w fun e w' => e = .returned (.int .i64 c) ∧ w = w') := fun w => by rw [← hc]; exact R_Mod_any _ _ (by omega) (by omega)
      have HC : Hid (c = eF (n - k) % 9973) := by
        unfold Hid
        rw [HF.out.sums hlt, ← hc, ← hT, hv, hg.out]
        exact (Eqm.refl (sg k)).mul (Eqm.mod _)
      obtain ⟨g5, hz, _, _, hcx, hfx⟩ := hx5.at (by omega)
      cases hz
      have y1 := hcx (n - k) (by omega)
      have y2 := hfx (n - k)
      have hx6 := hx5.set (k := n - k) c
      have hb7 := k5.setCell (p := ⟨w.heap.size, n - k, none⟩) (Nat.le_refl _) (.int .i64 c)
      clear hv hT hc hcx hfx hx5 b6 hx hb
      go_wp2_with (first | (go_at_call 7; (with_reducible refine (CM.out _).mono ?_); rintro e w' ⟨rfl, rfl⟩))
      go_roundw
      case rel => exact ⟨k + 1, -g, l.set (n - k) c, by omega, by go_num, rfl, by unfold Hid; rw [sg_succ, hg.out], by omega, hx6, fun j h1 h2 => by
        rw [ix_set]
        by_cases e : n - k = j
        · rw [if_pos ⟨e, by rw [HLL.out]; omega⟩, HC.out, e]
        · rw [if_neg (fun q => e q.1)]; exact hl.out j (by omega) h2, hb7⟩
      case measure => simp [intOf]; omega
    · obtain rfl : k = n + 1 := by omega
      have i1 : ¬ (n : Int) + 1 ≤ (n : Int) := by omega
      go_wp2
      go_ret
      first
        | exact ⟨_, _, rfl, l, hx.rd, fun j hj => hl.out j (by omega) hj, hb⟩
        | exact ⟨_, _, rfl, ⟨l, hx.rd, fun j hj => hl.out j (by omega) hj⟩, hb⟩
        | trace_state
end Go.Proofs.YtoahegjjffggaaaDoor
namespace Go.Proofs.YtoahegjjffggaaaDoor
open Go.RowKit Go.Rk

set_option maxHeartbeats 4000000 in
set_option maxRecDepth 100000 in
theorem charSays_err {a : Option Addr} {n ca : Nat} {A : List (List Int)} {w : World} {c : Int} (hg : ErrT w) (hA : RdM w a n ca A) (hq : squareR 5 0 9972 A = some c) :
    Calls Tryd.prog 3 #[.slice a n ca] w fun e w' => e = .returned (.bool true) ∧ Below w.heap.size w w' := by
  have lm := hA.len_max
  have C0 := R_Square_any 5 0 9972 hA
  rw [hq] at C0
  have C0 := Lib.hid C0
  have HQ := Lib.hid hq
  have c0 : c ≠ 0 := squareR_nz hq
  have z1 : (c == 0) = false := beq_eq_false_iff_ne.2 c0
  have z2 : ((0 : Int) == 0) = true := rfl
  clear hq
  go_enter Tryd.func3, Tryd.ntmps3
  go_wp2_with (first
    | (go_at_call 6; (with_reducible refine C0.out.mono ?_); rintro e w1 ⟨rfl, k1⟩; simp only [numV]))
  clear C0
  go_loopw [4, 6] (fun v x wr => v = .int .i64 0 ∧ x = .int .i64 0 ∧ wr = w1) (fun _ x _ => n - (intOf x).toNat)
  case atStart => exact ⟨rfl, rfl, rfl⟩
  case round =>
    obtain ⟨rfl, rfl, rfl⟩ := hrel
    rcases Nat.eq_zero_or_pos n with hn | hn
    rotate_left
    · have i1 : (0 : Int) < (n : Int) := by omega
      go_wp2_with (go_at_call 9; fail)
      refine (Trace_err (hA.below k1) HQ.out).mono ?_
      rintro e w2 ⟨rfl, rfl⟩
      go_wp2_with (go_at_call 10; fail)
      refine (E_same (hg.below k1)).mono ?_
      rintro e w3 ⟨rfl, b3⟩
      have k3 := below_tr k1 b3
      go_wp2_with (go_at_call 11; fail)
      refine (char_Of_err (hA.below k3) HQ.out).mono ?_
      rintro e w4 ⟨rfl, rfl⟩
      go_wp2_with (go_at_call 10; fail)
      refine (E_same (hg.below k3)).mono ?_
      rintro e w5 ⟨rfl, b5⟩
      have k5 := below_tr k3 b5
      go_wp2_with (go_at_call 12; fail)
      refine (Ints_none _).mono ?_
      rintro e w6 ⟨rfl, b6⟩
      have k6 := below_tr k5 b6
      go_wp2
      go_ret
      exact ⟨rfl, k6⟩
    · subst hn
      go_wp2_with (go_at_call 9; fail)
      refine (Trace_err (hA.below k1) HQ.out).mono ?_
      rintro e w2 ⟨rfl, rfl⟩
      go_wp2_with (go_at_call 10; fail)
      refine (E_same (hg.below k1)).mono ?_
      rintro e w3 ⟨rfl, b3⟩
      have k3 := below_tr k1 b3
      go_wp2_with (go_at_call 11; fail)
      refine (char_Of_err (hA.below k3) HQ.out).mono ?_
      rintro e w4 ⟨rfl, rfl⟩
      go_wp2_with (go_at_call 10; fail)
      refine (E_same (hg.below k3)).mono ?_
      rintro e w5 ⟨rfl, b5⟩
      have k5 := below_tr k3 b5
      go_wp2_with (go_at_call 12; fail)
      refine (Ints_none _).mono ?_
      rintro e w6 ⟨rfl, b6⟩
      have k6 := below_tr k5 b6
      go_wp2
      go_ret
      exact ⟨rfl, k6⟩

set_option maxHeartbeats 4000000 in
set_option maxRecDepth 100000 in
theorem charSays_ok {a : Option Addr} {n ca : Nat} {A : List (List Int)} {w : World} (hg : ErrT w) (hA : RdM w a n ca A) (hq : squareR 5 0 9972 A = none) :
    Calls Tryd.prog 3 #[.slice a n ca] w fun e w' => e = .returned (.bool true) ∧ Below w.heap.size w w' := by
  have lm := hA.len_max
  have C0 := R_Square_any 5 0 9972 hA
  rw [hq] at C0
  have C0 := Lib.hid C0
  obtain ⟨g1, g2⟩ := squareR_grounds hq
  have GA := Good.of hA.len_eq g1
  rw [g2, hA.len_eq] at GA
  have G := Lib.hid GA
  have n1 := GA.n1
  obtain ⟨eF, bF, F⟩ := FL.ex n1.1 (mx A)
  have HF := Lib.hid F
  clear hq g1 g2 GA F
  go_enter Tryd.func3, Tryd.ntmps3
  go_wp2_with (first
    | (go_at_call 6; (with_reducible refine C0.out.mono ?_); rintro e w1 ⟨rfl, k1⟩; simp only [numV]))
  clear C0
  go_loopw [4, 6] (fun v x wr => ∃ (i : Nat) (S : Int), i ≤ n ∧ x = .int .i64 i ∧ v = .int .i64 S ∧ 0 ≤ S ∧ S ≤ 9972 ∧ Hid (S = midS A i % 9973) ∧ wr = w1) (fun _ x _ => n - (intOf x).toNat)
  case atStart => exact ⟨0, 0, Nat.zero_le _, rfl, rfl, by omega, by omega, rfl, rfl⟩
  case round =>
    obtain ⟨i, S, hi, rfl, rfl, hS1, hS2, hS, rfl⟩ := hrel
    by_cases hin : i < n
    · have i1 : (i : Int) < (n : Int) := by omega
      obtain ⟨ba, oa, rfl, ar, cr, e1, e2⟩ := (hA.below k1).rowIn G.out.dm hin
      obtain ⟨pr, orr, rfl, _, hcc⟩ := e2.at hin
      have y1 := hcc i hin
      have bX := G.out.ent i i hin hin
      rw [show ix (rowOf A i) i = en A i i from rfl] at y1
      obtain ⟨X, hX⟩ : ∃ X, en A i i = X := ⟨_, rfl⟩
      rw [hX] at y1 bX
      have u1 : IntKind.i64.wrap (S + X) = S + X := Go.IntWalk.i64_in _ (by omega)
      have HV : Hid ((S + X) % 9973 = midS A (i + 1) % 9973) := by
        unfold Hid
        rw [hS.out, ← hX]
        unfold midS
        rw [sumTo]
        omega
      have bV : 0 ≤ (S + X) % 9973 ∧ (S + X) % 9973 ≤ 9972 := by omega
      clear hcc e2 hX
      go_wp2_with (first | (go_at_call 7; refine (R_Mod_any _ _ (by omega) (by omega)).mono ?_; rintro e w' ⟨rfl, rfl⟩))
      go_roundw
      case rel => exact ⟨_, _, _, _, _, _, _, _, _, _, _, _, _, _, _, _, _, _, _, _, _, _, ⟨i + 1, _, by omega, by go_num, rfl, bV.1, bV.2, HV, trivial⟩, rfl⟩
      case measure => simp [intOf]; omega
    · obtain rfl : n = i := by omega
      have z1 : (S == S) = true := beq_iff_eq.2 rfl
      go_wp2_with (go_at_call 8; fail)
      refine (M_Char_any (hA.below k1) G.out HF.out).mono ?_
      rintro e w2 ⟨aW, cW, W, rfl, hW, hWe, b2⟩
      have k2 := below_tr k1 b2
      have LW := Lib.hid hW.len_eq
      have HW := Lib.hid hWe
      clear hWe b2
      go_wp2_with (go_at_call 9; fail)
      refine (Trace_any (hA.below k2) G.out).mono ?_
      rintro e w3 ⟨rfl, rfl⟩
      rw [← hS.out]
      go_wp2_with (go_at_call 10; fail)
      refine (E_nil0 (hg.below k2)).mono ?_
      rintro e w4 ⟨rfl, b4⟩
      have k4 := below_tr k2 b4
      have hW4 := hW.below b4
      go_wp2_with (go_at_call 11; fail)
      refine (char_Of_ok (hA.below k4) G.out HF.out).mono ?_
      rintro e w5 ⟨aL, cL, l, rfl, hL0, hl, b5⟩
      have k5 := below_tr k4 b5
      have hW5 := hW4.below b5
      have hL := hL0.rd
      have HE : Hid (l = W) := ix_ext (by rw [hL.len_eq, LW.out]) fun k hk => by
        rw [hL.len_eq] at hk
        rw [hl k (by omega), HW.out k (by omega)]
      clear hL0 hl b4 b5 hW hW4
      go_wp2_with (go_at_call 10; fail)
      refine (E_nil0 (hg.below k5)).mono ?_
      rintro e w6 ⟨rfl, b6⟩
      have k6 := below_tr k5 b6
      go_wp2_with (go_at_call 12; fail)
      refine (Ints_eq (hL.below b6) (hW5.below b6) HE.out).mono ?_
      rintro e w7 ⟨rfl, b7⟩
      have k7 := below_tr k6 b7
      go_wp2
      go_ret
      exact ⟨rfl, k7⟩

theorem charSays_walk {a : Option Addr} {n ca : Nat} {A : List (List Int)} {w : World} (hg : ErrT w) (hA : RdM w a n ca A) (_ : ∀ r ∈ A, Fit r) :
    Calls Tryd.prog 3 #[.slice a n ca] w fun e w' => e = .returned (.bool true) ∧ Below w.heap.size w w' := by
  rcases hq : squareR 5 0 9972 A with _ | c
  · exact charSays_ok hg hA hq
  · exact charSays_err hg hA hq
end Go.Proofs.YtoahegjjffggaaaDoor

/-
  The closed fact of the statements on solving.
  A matrix of the call's own, one row moved and another one renewed. No program in sight.
  The reference's Stairs walked: a matrix in steps, and where these begin. The last row with a number other than 0 is the pivot.
  The reference's Null and Solve walked; and that they say what package solve says.
  The reference's Null and Solve walked.
  A matrix without a row and a column; num.Cut walked.
  The reference's Matrix, Square, Without and DetMod walked.
  plain.Told and the same package's Error, by errors.As.
  What the statements on whole packages use again and again: the reference's Field, and rows and matrices that are the same.
  SolveSays walked: of any matrix the rows that it takes to noughts, and the one that it takes to a row.
-/
import Derived.Test.YtkielldinghmbaaDoorRows
import Derived.Deep.QuietTactic
import Derived.BigQuiet
import Derived.StillTailTactics
import Derived.Deep.RegionHeld3
import Derived.Test.YtkielldinghmbaaDoorMgSolveSaysF0
import Derived.Test.YtkielldinghmbaaDoorMgSolveSaysF1
import Derived.Test.YtkielldinghmbaaDoorMgSolveSaysF2
import Derived.Test.YtkielldinghmbaaDoorMgSolveSaysF4
import Derived.Test.YtkielldinghmbaaDoorMgSolveSaysF5
import Derived.Test.YtkielldinghmbaaDoorMgSolveSaysF6
import Derived.Test.YtkielldinghmbaaDoorMgSolveSaysF8
import Derived.Test.YtkielldinghmbaaDoorMgSolveSaysF9
import Derived.Test.YtkielldinghmbaaDoorMgSolveSaysF10
namespace Go.Proofs.YtkielldinghmbaaDoor
open Go.RowKit Go.Rk

/-- If anything is taken to the right side, what is told is. -/
theorem told {n c : Nat} {M P : List (List Int)} {t T ps x : List Int} (hd : Dm n c M) (h : RInv n c (mx (augL n M t)) c P T ps) (hx : XRow c T ps x) (hl : t.length = n) (it : In 0 9972 t) (y : Nat → Int) (hy : ∀ i, i < n → Eqm (sumTo (fun j => en M i j * y j) c) (ix t i)) : toN M x c n = t := by
  refine ix_ext (by rw [toN_len, hl]) fun i hi => ?_
  rw [toN_len] at hi
  rw [toN_ix hi]
  have e := solves hd h hx hy hi
  have b := it i (by rw [hl]; exact hi)
  unfold toV
  unfold Eqm at e
  omega

theorem two_half {x : Int} (h : (x * 2) % 9973 = 4) (b : 0 ≤ x ∧ x ≤ 9972) : x = 2 := by
  have h3 : x * 2 * 4987 % 9973 = 4 * 4987 % 9973 := by rw [Int.mul_emod, h]; rfl
  rw [show x * 2 * 4987 = x + 9973 * x by omega, Int.add_mul_emod_self_left, Int.emod_eq_of_lt b.1 (by omega)] at h3
  rw [h3]
  rfl

theorem nullLit : GInv 1 2 (mx [[1, 2]]) 2 [[1, 2]] [0] := by
  refine ⟨⟨rfl, fun i hi => (by obtain rfl : i = 0 := (by omega); rfl)⟩, fun i j hi hj => ?_, Made.refl _ _ _, Made.refl _ _ _, ⟨by decide, fun i hi => ?_, fun i j h1 h2 => ?_, fun i j h1 h2 => ?_, fun i s h1 h2 h3 => ?_, fun i s h1 h2 => ?_⟩, fun i hi => ?_⟩
  · obtain rfl : i = 0 := by omega
    rcases (show j = 0 ∨ j = 1 by omega) with rfl | rfl <;> decide
  · obtain rfl : i = 0 := by simp at hi; omega
    decide
  · simp at h2; omega
  · obtain rfl : j = 0 := by simp at h2; omega
    obtain rfl : i = 0 := by omega
    unfold Eqm; decide
  · simp at h1; omega
  · obtain rfl : i = 0 := by simp at h1; omega
    have : (ix [0] 0).toNat = 0 := by decide
    rw [this] at h2
    omega
  · obtain rfl : i = 0 := by simp at hi; omega
    decide
theorem nullIs {L : List (List Int)} (h : Nul 2 2 [[1, 2]] [0] L) : L = [[9971, 1]] := by
  have hl : L.length = 1 := h.len
  have hr := h.row 0 (by omega)
  rw [show freeAt [0] 2 0 = 1 by decide] at hr
  have h0 : ix (rowOf L 0) 0 = 9971 := (hr.piv 0 (by decide)).trans (by decide)
  have hd : Dm 1 2 L := ⟨hl, fun i hi => (by obtain rfl : i = 0 := (by omega); exact hr.len)⟩
  refine hd.ext (n := 1) (c := 2) ⟨rfl, fun i hi => (by obtain rfl : i = 0 := (by omega); rfl)⟩ fun i j hi hj => ?_
  obtain rfl : i = 0 := by omega
  rcases (show j = 0 ∨ j = 1 by omega) with rfl | rfl
  · exact h0
  · exact hr.one

theorem rd12 {w : World} {b p : Nat} {x y : Int} (h0 : w.cell? ⟨b, 0, none⟩ = some (.slice (some ⟨p, 0, none⟩) 2 2)) (h1 : w.cell? ⟨p, 0, none⟩ = some (.int .i64 x)) (h2 : w.cell? ⟨p, 1, none⟩ = some (.int .i64 y)) : RdM w (some ⟨b, 0, none⟩) 1 1 [[x, y]] := by
  refine ⟨rfl, Nat.le_refl _, by decide, fun k hk => ?_⟩
  obtain rfl : k = 0 := by omega
  exact ⟨b, 0, some ⟨p, 0, none⟩, 2, 2, rfl, h0, rd2 h1 h2⟩

theorem oneIs {P : List (List Int)} {T ps x : List Int} (h : RInv 2 2 (mx (augL 2 [[1, 1], [0, 2]] [3, 4])) 2 P T ps) (hx : XRow 2 T ps x) : toN [[1, 1], [0, 2]] x 2 2 = [3, 4] ∧ x = [1, 2] := by
  have hd : Dm 2 2 [[1, 1], [0, 2]] := ⟨rfl, fun i hi => by rcases (show i = 0 ∨ i = 1 by omega) with rfl | rfl <;> rfl⟩
  have ht := told hd h hx rfl (by intro i hi; simp at hi; rcases (show i = 0 ∨ i = 1 by omega) with rfl | rfl <;> decide) (fun j => if j = 0 then 1 else 2) fun i hi => by
    rcases (show i = 0 ∨ i = 1 by omega) with rfl | rfl <;> (unfold Eqm; decide)
  refine ⟨ht, ?_⟩
  have e0 : toV [[1, 1], [0, 2]] x 2 0 = 3 := by rw [← toN_ix (n := 2) (by omega), ht]; rfl
  have e1 : toV [[1, 1], [0, 2]] x 2 1 = 4 := by rw [← toN_ix (n := 2) (by omega), ht]; rfl
  have hr := hx.range h.eT (by rw [h.lT]; exact h.inv.st.le) h.inv.pos
  have b0 := hr 0 (by rw [hx.len]; omega)
  have b1 := hr 1 (by rw [hx.len]; omega)
  have t0 : ∀ f : Nat → Int, sumTo (fun j => en [[1, 1], [0, 2]] 0 j * f j) 2 = f 0 + f 1 := fun f => by simp [sumTo, en, rowOf, ix]
  have t1 : ∀ f : Nat → Int, sumTo (fun j => en [[1, 1], [0, 2]] 1 j * f j) 2 = f 1 * 2 := fun f => by simp [sumTo, en, rowOf, ix]; omega
  unfold toV at e0 e1
  rw [t0 (ix x)] at e0
  rw [t1 (ix x)] at e1
  have x1 : ix x 1 = 2 := two_half e1 b1
  have x0 : ix x 0 = 1 := by omega
  refine ix_ext (by rw [hx.len]; rfl) fun k hk => ?_
  rw [hx.len] at hk
  rcases (show k = 0 ∨ k = 1 by omega) with rfl | rfl
  · exact x0
  · exact x1

set_option maxHeartbeats 4000000 in
set_option maxRecDepth 100000 in
theorem solveFact_any (w : World) : Calls Tryd.prog 53 #[] w fun e w' => e = .returned (.bool true) ∧ Below w.heap.size w w' := by
  have G1 := Lib.hid (Good.of (n := 2) (M := [[1, 1], [0, 2]]) rfl (by decide))
  have G2 := Lib.hid (Good.of (n := 1) (M := [[1, 2]]) rfl (by decide))
  go_enter Tryd.func53, Tryd.ntmps53
  go_wp2_with fail
  refine (One_ok (n := 2) (c := 2) (M := [[1, 1], [0, 2]]) (t := [3, 4]) (rd22 (p := w.heap.size) (q := w.heap.size + 1) ?_ ?_ ?_ ?_ ?_ ?_) G1.out (rd2 ?_ ?_) (by intro i hi; simp at hi; rcases (show i = 0 ∨ i = 1 by omega) with rfl | rfl <;> decide)).mono ?main
  case main =>
    rintro e w1 ⟨P, T, ps, x, h1, h2, h3, hb⟩
    have hx := oneIs h1 h2
    rcases h3 with ⟨_, ax, cx, rfl, ho⟩ | ⟨hne, _⟩
    · have b1 := below_tr (below_al (below_al (below_al (below_al (Below.refl _ w) _) _) _) _) hb
      have hX := ho.rd
      rw [hx.2] at hX
      clear ho h1 h2 hx hb
      go_wp2_with fail
      refine (Null_ok (n := 1) (c := 2) (M := [[1, 2]]) (rd12 (p := w1.heap.size) ?_ ?_ ?_) G2.out).mono ?main
      case main =>
        rintro e w2 ⟨al, cl, L, P, ps, rfl, ho, hi, hN, hb⟩
        obtain ⟨rfl, rfl⟩ := hi.same nullLit (Made.refl _ _ _) (Made.refl _ _ _)
        obtain rfl := nullIs hN
        have k2 := below_tr (below_al (below_al (Below.refl _ w1) _) _) hb
        have b2 := below_tr b1 k2
        have hX := hX.below k2
        have hL := ho.rd
        clear ho hi hN b1 k2 hb
        have C := Lib.hid (Ints_any (hX.alloc (.cells #[.int .i64 1, .int .i64 2] 3)) (RdI.lit w2 [1, 2] 3 (by decide)))
        go_wp2_with fail
        refine C.out.mono ?_
        rintro e w3 ⟨rfl, hb⟩
        have k3 := below_tr (below_al (Below.refl _ w2) (.cells #[.int .i64 1, .int .i64 2] 3)) hb
        have b3 := below_tr b2 k3
        have hL := hL.below k3
        clear C b2 k3 hb hX
        go_wp2_with fail
        refine (Rows_any (l := [[9971, 1]]) (m := [[9971, 1]]) (hL.below (below_al (below_al (Below.refl _ w3) _) _)) (rd12 (p := w3.heap.size) ?_ ?_ ?_)).mono ?main
        case main =>
          rintro e w4 ⟨rfl, hb⟩
          have b4 := below_tr b3 (below_tr (below_al (below_al (Below.refl _ w3) _) _) hb)
          clear hb b3 hL
          go_wp2
          go_ret
          exact ⟨rfl, b4⟩
        all_goals simp [go_sem]
      all_goals simp [go_sem]
    · exact absurd hx.1 hne
  all_goals simp [go_sem]
end Go.Proofs.YtkielldinghmbaaDoor
namespace Go.Rk
open Go.RowKit

def pivL (M : List (List Int)) (a t : Nat) (l : List Int) : List (List Int) := (M.set a (rowOf M t)).set t l
def pivF {α : Type} (D : Nat → α) (a t : Nat) (p : α) : Nat → α := fun j => if j = t then p else if j = a then D t else D j
theorem pivL_len (M : List (List Int)) (a t : Nat) (l : List Int) : (pivL M a t l).length = M.length := by simp [pivL]
theorem rowOf_pivL {M : List (List Int)} {a t : Nat} (ha : a < M.length) (ht : t < M.length) (l : List Int) (j : Nat) : rowOf (pivL M a t l) j = if j = t then l else if j = a then rowOf M t else rowOf M j := by
  unfold pivL
  rw [rowOf_set, rowOf_set, List.length_set]
  by_cases h1 : j = t
  · subst h1; simp [ht]
  · by_cases h2 : j = a
    · subst h2; simp [h1, Ne.symm h1, ha]
    · simp [h1, h2, Ne.symm h1, Ne.symm h2]

section
variable {w w2 : World} {B T E g : Nat} {D C : Nat → Nat} {n cap : Nat} {M : List (List Int)}
theorem OwMD.pivot (h : OwMD w B T E g D C n cap M) (hne : T ≠ E) {a t : Nat} (ha : a < n) (ht : t < n) {p cr : Nat} {l : List Int}
    (hb : Below w.heap.size (w.setCell ⟨g, a, none⟩ (.slice (some ⟨D t, 0, none⟩) (rowOf M t).length (C t))) w2) (ho : OwI w2 w.heap.size E (some ⟨p, 0, none⟩) l.length cr l) (hB : B ≤ w.heap.size) :
    OwMD (w2.setCell ⟨g, t, none⟩ (.slice (some ⟨p, 0, none⟩) l.length cr)) B T E g (pivF D a t p) (pivF C a t cr) n cap (pivL M a t l) := by
  have hal : a < M.length := by rw [h.len_eq]; exact ha
  have htl : t < M.length := by rw [h.len_eq]; exact ht
  have hb' : Below (w.setCell ⟨g, a, none⟩ (.slice (some ⟨D t, 0, none⟩) (rowOf M t).length (C t))).heap.size (w.setCell ⟨g, a, none⟩ (.slice (some ⟨D t, 0, none⟩) (rowOf M t).length (C t))) w2 := by simpa using hb
  have hpl := ho.own.lt p rfl
  have hgl := h.lowO
  have s1 := (h.outer.stored a (.slice (some ⟨D t, 0, none⟩) (rowOf M t).length (C t))).1
  have s2 := s1.kept (row := none) ⟨hb'.os, hb'.tape, hb'.output, hb'.size, fun k hk _ => hb'.block k hk⟩ (.inr (by simp [Value.ownBlock]))
  have s3 := (s2.stored t (.slice (some ⟨p, 0, none⟩) l.length cr)).1
  refine ⟨by rw [pivL_len]; exact h.len_eq, ?_, fun j hj => ?_, fun i j hi hj hij => ?_⟩
  · have : ((List.range n).map fun j => Value.slice (some ⟨pivF D a t p j, 0, none⟩) (rowOf (pivL M a t l) j).length (pivF C a t cr j)) =
        (((List.range n).map fun j => Value.slice (some ⟨D j, 0, none⟩) (rowOf M j).length (C j)).set a (.slice (some ⟨D t, 0, none⟩) (rowOf M t).length (C t))).set t (.slice (some ⟨p, 0, none⟩) l.length cr) := by
      apply List.ext_getElem?
      intro j
      rcases Nat.lt_or_ge j n with h1 | h1
      · rw [List.getElem?_set, List.getElem?_set]
        simp only [List.length_set, List.length_map, List.length_range, List.getElem?_map]
        rw [List.getElem?_range h1]
        simp only [Option.map_some, rowOf_pivL hal htl, pivF]
        by_cases h2 : j = t
        · subst h2; simp [h1]
        · by_cases h3 : j = a
          · subst h3; simp [h2, Ne.symm h2, h1]
          · simp [h2, h3, Ne.symm h2, Ne.symm h3]
      · rw [List.getElem?_eq_none (by simp; omega), List.getElem?_eq_none (by simp; omega)]
    rw [this]
    exact s3
  · rw [rowOf_pivL hal htl]
    have keep : ∀ m, m < n → OwI (w2.setCell ⟨g, t, none⟩ (.slice (some ⟨p, 0, none⟩) l.length cr)) B E (some ⟨D m, 0, none⟩) (rowOf M m).length (C m) (rowOf M m) :=
      fun m hm => (((h.rows m hm).setElse (h.neO hne hm).symm _).below hb').setElse (h.neO hne hm).symm _
    simp only [pivF]
    by_cases h2 : j = t
    · simp only [h2, if_true]
      exact (ho.mono hB).setElse (by show g ≠ p; omega) _
    · by_cases h3 : j = a
      · simp only [h3, if_true]
        by_cases h4 : a = t
        · exact absurd (h3.trans h4) h2
        · simp only [if_neg h4]; exact keep t ht
      · simp only [h2, h3, if_false]; exact keep j hj
  · have lo : ∀ m, m < n → D m ≠ p := fun m hm => by have := (h.lowI hm).2; omega
    simp only [pivF]
    by_cases h1 : i = t
    · subst h1
      rw [if_pos rfl, if_neg (Ne.symm hij)]
      by_cases h2 : j = a
      · rw [if_pos h2]; exact (lo i ht).symm
      · rw [if_neg h2]; exact (lo j hj).symm
    · rw [if_neg h1]
      by_cases h2 : j = t
      · rw [if_pos h2]
        by_cases h3 : i = a
        · rw [if_pos h3]; exact lo t ht
        · rw [if_neg h3]; exact lo i hi
      · rw [if_neg h2]
        by_cases h3 : i = a
        · rw [if_pos h3, if_neg (fun e => hij (h3.trans e.symm))]; exact h.inj t j ht hj (Ne.symm h2)
        · rw [if_neg h3]
          by_cases h4 : j = a
          · rw [if_pos h4]; exact h.inj i t hi ht h1
          · rw [if_neg h4]; exact h.inj i j hi hj hij
end
end Go.Rk
namespace Go.Proofs.YtkielldinghmbaaDoor
open Go.RowKit Go.Rk

/-- A slice's block is none of a matrix's. -/
def BSep (v : Value) (g : Nat) (D : Nat → Nat) (n : Nat) : Prop := ∀ b, v.ownBlock = some b → b ≠ g ∧ ∀ i, i < n → b ≠ D i
theorem _root_.Go.Rk.OwMD.grownElse {w w' : World} {B T E g : Nat} {D C : Nat → Nat} {n cap : Nat} {M : List (List Int)} {row : Option Nat} (h : OwMD w B T E g D C n cap M) (hg : w.grownBy w' row) (hr : ∀ r, row = some r → r ≠ g ∧ ∀ i, i < n → r ≠ D i) : OwMD w' B T E g D C n cap M :=
  ⟨h.len_eq, h.outer.kept hg (.inr fun e => (hr g e.symm).1 rfl), fun i hi => (h.rows i hi).grown hg (.inr fun e => (hr (D i) e.symm).2 i hi rfl), h.inj⟩

theorem _root_.Go.Rk.OwI.setSep {w : World} {B E : Nat} {a : Option Addr} {n cap : Nat} {l : List Int} {p : Addr} (h : OwI w B E a n cap l) (hp : ∀ b, (Value.slice a n cap).ownBlock = some b → b ≠ p.block) (u : Value) : OwI (w.setCell p u) B E a n cap l :=
  ⟨h.len_eq, ownsRow_same h.own fun b hb => Below.heap_setCell _ _ _ _ (hp b hb)⟩

/-- The places so far cleared: the rows before i, and of row i the places before j. -/
def stairP (M : List (List Int)) (t q : Nat) (i j r s : Nat) : Int := if r ≠ t ∧ (r < i ∨ (r = i ∧ s < j)) then (en M r s - en M r q * en M t s) % 9973 else en M r s

set_option maxHeartbeats 4000000 in
set_option maxRecDepth 100000 in
theorem R_Stairs_any {a : Option Addr} {n ca c cols : Nat} {M : List (List Int)} {w : World} (h : RdM w a n ca M) (hd : Dm n c M) (he : EntR 0 9972 n c M) (h1 : 1 ≤ n) (hn : n ≤ 1000) (hc : c ≤ 1000) (hcc : cols ≤ c) (hc1 : 1 ≤ c) :
    Calls Tryd.prog 30 #[.slice a n ca, .int .i64 cols] w fun e w' => ∃ ao co ap cp P ps, e = .returned (.tuple #[.slice ao n co, .slice ap ps.length cp]) ∧ RdM w' ao n co P ∧ RdI w' ap ps.length cp ps ∧ GInv n c (mx M) cols P ps ∧ Below w.heap.size w w' := by
  have HIT := Lib.hid intTy
  have S0 := Lib.hid (GInv.start hd he)
  have C := Lib.hid (R_Copy_any h hn (fun k hk => by rw [hd.2 k hk]; exact hc))
  have HDM := Lib.hid hd
  clear he hd
  go_enter Tryd.func30, Tryd.ntmps30
  go_wp2_with (first | (go_at_call 60; (with_reducible refine C.out.mono ?_); rintro e w1 ⟨z, cz, rfl, ho, hb⟩))
  obtain ⟨g, D, C_, hzz, hd1⟩ := ho.named (by omega) fun i hi => by rw [HDM.out.2 i hi]; omega
  subst hzz
  clear ho C HDM
  go_loopw [7, 8] (fun s v wr => ∃ (q : Nat) (ps : List Int) (ab : Option Addr) (cb : Nat) (D C_ : Nat → Nat) (P : List (List Int)), q ≤ cols ∧ v = .int .i64 q ∧ s = .slice ab ps.length cb ∧ OwI wr w.heap.size 3 ab ps.length cb ps ∧ OwMD wr w.heap.size 32 3 g D C_ n cz P ∧ Hid (GInv n c (mx M) q P ps) ∧ BSep (.slice ab ps.length cb) g D n ∧ Below w.heap.size w wr) (fun _ v _ => cols - (intOf v).toNat)
  case atStart => exact ⟨0, [], none, 0, D, C_, M, Nat.zero_le _, rfl, rfl, OwI.nil _ _ _, hd1, S0, (fun b h => by cases h), hb⟩
  case round =>
    clear hd1 hb S0
    obtain ⟨q, ps, ab, cb, D, C_, P, hq, rfl, rfl, hbg, hdm, HG, hsp, hb⟩ := hrel
    obtain ⟨wo, rfl⟩ : ∃ x, x = wr := ⟨_, rfl⟩
    by_cases hqc : q < cols
    · have i1 : (q : Int) < (cols : Int) := by omega
      have i2 : (q : Int) < (c : Int) := by omega
      have hle := HG.out.st.le
      have hqc2 : q < c := by omega
      obtain ⟨top, htop⟩ : ∃ top, top = ps.length := ⟨_, rfl⟩
      rw [← htop] at hbg hsp hle ⊢
      have HT := Lib.hid htop
      clear htop
      go_wp2
      go_loop [10, 11] (fun at_ v => ∃ i : Nat, top ≤ i ∧ i ≤ n ∧ v = .int .i64 i ∧ ((at_ = .int .i64 (-1) ∧ Hid (∀ r, top ≤ r → r < i → en P r q = 0)) ∨ ∃ k : Nat, at_ = .int .i64 k ∧ top ≤ k ∧ k < i ∧ Hid (en P k q ≠ 0))) (fun _ v => n - (intOf v).toNat)
      case atStart => exact ⟨top, Nat.le_refl _, hle, rfl, .inl ⟨rfl, fun r h1 h2 => absurd h2 (by omega)⟩⟩
      case round =>
        obtain ⟨i, hi0, hi, rfl, hor⟩ := hrel
        by_cases hin : i < n
        · have j1 : (i : Int) < (n : Int) := by omega
          have x1 := hdm.cellO hin
          rw [HG.out.dm.2 i hin] at x1
          have x2 := hdm.cellI hin (j := q) (by rw [HG.out.dm.2 i hin]; exact hqc2)
          by_cases hz : en P i q = 0
          · rw [hz] at x2
            have HZ := Lib.hid hz
            clear hz
            rcases hor with ⟨rfl, H0⟩ | ⟨k, rfl, c1, c2, H0⟩
            · go_wp2
              go_round
              case rel => exact ⟨i + 1, by omega, by omega, by go_num, .inl ⟨rfl, fun r h1 h2 => by
                rcases Nat.lt_or_ge r i with h3 | h3
                · exact H0.out r h1 h3
                · obtain rfl : r = i := by omega
                  exact HZ.out⟩⟩
              case measure => simp [intOf]; omega
            · go_wp2
              go_round
              case rel => exact ⟨i + 1, by omega, by omega, by go_num, .inr ⟨k, rfl, c1, by omega, H0⟩⟩
              case measure => simp [intOf]; omega
          · have HZ := Lib.hid hz
            obtain ⟨v, hv⟩ : ∃ v, v = en P i q := ⟨_, rfl⟩
            rw [← hv] at x2 hz
            have z1 : (v != 0) = true := bne_iff_ne.2 hz
            clear hz hv hor
            go_wp2
            go_round
            case rel => exact ⟨i + 1, by omega, by omega, by go_num, .inr ⟨i, rfl, hi0, by omega, HZ⟩⟩
            case measure => simp [intOf]; omega
        · obtain rfl : n = i := by omega
          rcases hor with ⟨rfl, H0⟩ | ⟨k, rfl, c1, c2, H0⟩
          · have HG2 : Hid (GInv n c (mx M) (q + 1) P ps) := HG.out.pass (by rw [← HT.out]; exact H0.out)
            go_wp2
            go_roundw
            case rel => exact ⟨q + 1, ps, ab, cb, D, C_, P, by omega, by go_num, by rw [← HT.out], by rw [← HT.out]; exact hbg, hdm, HG2, by rw [← HT.out]; exact hsp, hb⟩
            case measure => simp [intOf]; omega
          · have c1_ := c1
            have z1 : ¬ (k : Int) < 0 := by omega
            have j1 : (k : Int) < (n : Int) := by omega
            have htn : top < n := by omega
            have j2 : (top : Int) < (n : Int) := by omega
            have x1 := hdm.cellO c2
            rw [HG.out.dm.2 k c2] at x1
            have x2 := hdm.cellI c2 (j := q) (by rw [HG.out.dm.2 k c2]; exact hqc2)
            have x3 := hdm.cellO htn
            rw [HG.out.dm.2 top htn] at x3
            have f1 := hdm.frozenO k
            have be := HG.out.ent k q c2 hqc2
            have HX := Lib.hid (fun j (hj : j < c) => hdm.cellI c2 (j := j) (by rw [HG.out.dm.2 k c2]; exact hj))
            have hDk := hdm.lowI c2
            have hne : D k ≠ g := hdm.neO matTy.ne c2
            obtain ⟨V, hV⟩ : ∃ V, V = en P k q := ⟨_, rfl⟩
            rw [← hV] at x2 be
            have hgl := hdm.lowO
            have x4 : (wo.setCell ⟨g, k, none⟩ (.slice (some ⟨D top, 0, none⟩) c (C_ top))).cell? ⟨D k, q, none⟩ = some (.int .i64 V) := by
              rw [World.cell?_setCell_other _ _ _ _ (by intro e; injection e with e1; exact hne (by first | exact e1 | exact e1.symm))]; exact x2
            obtain ⟨ov, hov⟩ : ∃ ov, ov = powm V 9971 := ⟨_, rfl⟩
            have hovb : 0 ≤ ov ∧ ov ≤ 9972 := by rw [hov]; exact powm_in _ _
            have HOV : Hid (powm (en P k q) 9971 = ov) := by rw [hov, hV]; exact rfl
            have HV0 : Hid (en P k q ≠ 0) := H0
            have CP : Hid (∀ w, Calls Tryd.prog 72 #[.int .i64 V, .int .i64 9971] w fun e w' => e = .returned (.int .i64 ov) ∧ w = w') := fun w => by rw [hov]; exact R_Pow_any 9971 9971 V w (Nat.le_refl _) (by omega) be
            clear hV hov
            go_wp2_with (first | (go_at_call 72; (with_reducible refine (CP.out _).mono ?_); rintro e w' ⟨rfl, rfl⟩))
            clear x1 x2 x4 f1 be
            have HX2 : Hid (∀ j, j < c → (wo.setCell ⟨g, k, none⟩ (.slice (some ⟨D top, 0, none⟩) c (C_ top))).cell? ⟨D k, j, none⟩ = some (.int .i64 (en P k j))) := fun j hj => by
              rw [World.cell?_setCell_other _ _ _ _ (by intro e; injection e with e1; exact hne (by first | exact e1 | exact e1.symm))]; exact HX.out j hj
            have hbs := hb.setCell (p := ⟨g, k, none⟩) hgl.1 (.slice (some ⟨D top, 0, none⟩) c (C_ top))
            have hss : wo.heap.size = (wo.setCell ⟨g, k, none⟩ (.slice (some ⟨D top, 0, none⟩) c (C_ top))).heap.size := by simp
            have f2 : (wo.setCell ⟨g, k, none⟩ (.slice (some ⟨D top, 0, none⟩) c (C_ top))).frozen? ⟨g, top, none⟩ = false := (World.frozen?_setCell _ _ _ _).trans (hdm.frozenO top)
            have y5 : (wo.setCell ⟨g, k, none⟩ (.slice (some ⟨D top, 0, none⟩) c (C_ top))).cell? ⟨g, top, none⟩ = some (.slice (some ⟨D top, 0, none⟩) c (C_ top)) := by
              by_cases e : k = top
              · subst e; exact World.cell?_setCell_same _ _ _ x3
              · rw [World.cell?_setCell_other _ _ _ _ (by intro e2; injection e2 with _ e1; exact e (by first | exact e1 | exact e1.symm))]; exact x3
            have HPV : Hid (∀ {w2 : World} {p cr : Nat} {l : List Int}, Below wo.heap.size (wo.setCell ⟨g, k, none⟩ (.slice (some ⟨D top, 0, none⟩) c (C_ top))) w2 → OwI w2 wo.heap.size 3 (some ⟨p, 0, none⟩) l.length cr l → OwMD (w2.setCell ⟨g, top, none⟩ (.slice (some ⟨p, 0, none⟩) l.length cr)) w.heap.size 32 3 g (pivF D k top p) (pivF C_ k top cr) n cz (pivL P k top l)) := fun h1 h2 => hdm.pivot matTy.ne c2 htn (by rw [HG.out.dm.2 top htn]; exact h1) h2 hb.size
            have hDlt : Hid (∀ i, i < n → D i < wo.heap.size) := fun i hi => (hdm.lowI hi).2
            have hbgS : OwI (wo.setCell ⟨g, k, none⟩ (.slice (some ⟨D top, 0, none⟩) c (C_ top))) w.heap.size 3 ab top cb ps := OwI.setSep hbg (fun b hb => (hsp b hb).1) _
            have hbglt : Hid (∀ b, (Value.slice ab top cb).ownBlock = some b → b < wo.heap.size) := fun b hb => (hbg.own.lt b hb).2
            have hglt := hgl.2
            clear hdm hbg HX x3 hb
            generalize (wo.setCell ⟨g, k, none⟩ (.slice (some ⟨D top, 0, none⟩) c (C_ top))) = ws at *
            have HSS := Lib.hid hss
            have hs0 : w.heap.size ≤ wo.heap.size := by rw [hss]; exact hbs.size
            clear hss
            go_loopw [14, 15] (fun s v wt => ∃ (j : Nat) (a1 : Option Addr) (c1 : Nat), j ≤ c ∧ v = .int .i64 j ∧ s = .slice a1 j c1 ∧ OwI wt wo.heap.size 3 a1 j c1 (rowF (fun j => en P k j * ov % 9973) j) ∧ Below wo.heap.size ws wt) (fun _ v _ => c - (intOf v).toNat)
            case atStart => exact ⟨0, none, 0, Nat.zero_le _, rfl, rfl, OwI.nil _ _ _, Below.refl _ _⟩
            case round =>
              obtain ⟨j, a1, c1, hj, rfl, rfl, ho1, hb1⟩ := hrel
              by_cases hjc : j < c
              · have y1 := hb1.keep hDk.2 (HX2.out j hjc)
                have m1 := HG.out.ent k j c2 hjc
                have p1 := mul_bd m1 hovb
                have i3 : (j : Int) < (c : Int) := by omega
                have hs1 := hb1.size
                rw [← HSS.out] at hs1
                go_wp2_with (first | (go_at_call 47; refine (R_Mod_any _ _ (by omega) (by omega)).mono ?_; rintro e w' ⟨rfl, rfl⟩) | (at_builtin; refine wpList_push_int HIT.out rfl (.tmp 68) (.tmp 76) rfl rfl rfl (ho1.alloc _) (z := en P k j * ov % 9973) (by simp) (by decide) (by decide) (by omega) (by simp; omega) ?_; intro a4 c4 w4 ho4 hg4))

                have hb4 := below_grown (hb1.alloc (by omega) (.cells #[.int .i64 (en P k j * ov % 9973)] 3)) (ho1.alloc _) (by simp; omega) hg4
                go_roundw
                case rel => exact ⟨j + 1, a4, c4, by omega, by go_num, rfl, by rw [rowF_succ]; exact ho4, hb4⟩
                case measure => simp [intOf]; omega
              · obtain rfl : c = j := by omega
                obtain ⟨p, hz1, hp1, hp2, _, _⟩ := ho1.at (by omega)
                subst hz1
                have y6 := hb1.keep hglt y5
                have f6 := (hb1.frozen (p := ⟨g, top, none⟩) hglt).trans f2
                have hP4 := HPV.out hb1 (by rw [rowF_len]; exact ho1)
                rw [rowF_len] at hP4
                have hbg1 : OwI wr w.heap.size 3 ab top cb ps := hbgS.below (by rw [← HSS.out]; exact hb1)
                have hbg2 : OwI (wr.setCell ⟨g, top, none⟩ (.slice (some ⟨p, 0, none⟩) c c1)) w.heap.size 3 ab top cb ps := OwI.setSep hbg1 (fun b hb => (hsp b hb).1) _
                have hb2 := (hbs.trans (hb1.mono hs0)).setCell (p := ⟨g, top, none⟩) hgl.1 (.slice (some ⟨p, 0, none⟩) c c1)
                have HI : Hid (GInv n c (mx M) q (swapL P top k) ps) := by rw [HT.out]; exact HG.out.swap (by rw [← HT.out]; exact c1_) c2
                have HPN : Hid (en (swapL P top k) top q ≠ 0) := by
                  unfold Hid
                  rw [en_swap HG.out.dm htn c2]
                  by_cases e : top = k
                  · rw [if_pos e, e]; exact HV0.out
                  · rw [if_neg e, if_pos rfl]; exact HV0.out
                have HOQ : Hid (powm (en (swapL P top k) top q) 9971 = ov) := by
                  unfold Hid
                  rw [← HOV.out, en_swap HG.out.dm htn c2]
                  by_cases e : top = k
                  · rw [if_pos e, e]
                  · rw [if_neg e, if_pos rfl]
                have hi0 : Hid (IsR n c (pivL P k top (rowF (fun s => en P k s * ov % 9973) c)) (clearP (swapL P top k) top q ov 0 0)) := by
                  have hkl : k < P.length := by rw [HG.out.dm.1]; exact c2
                  have htl : top < P.length := by rw [HG.out.dm.1]; exact htn
                  refine ⟨⟨by rw [pivL_len]; exact HG.out.dm.1, fun r hr => ?_⟩, fun r s hr hs => ?_⟩
                  · rw [rowOf_pivL hkl htl]
                    (repeat' split) <;> first | exact rowF_len _ _ | exact HG.out.dm.2 _ (by assumption)
                  · unfold clearP
                    rw [if_neg (by omega)]
                    unfold scaleE
                    have e1 : en (pivL P k top (rowF (fun s => en P k s * ov % 9973) c)) r s = if r = top then en P k s * ov % 9973 else if r = k then en P top s else en P r s := by
                      unfold en
                      rw [rowOf_pivL hkl htl]
                      by_cases e : r = top
                      · rw [if_pos e, if_pos e, rowF_ix hs]
                      · rw [if_neg e, if_neg e]
                        by_cases e2 : r = k
                        · rw [if_pos e2, if_pos e2]
                        · rw [if_neg e2, if_neg e2]
                    rw [e1, en_swap HG.out.dm htn c2, en_swap HG.out.dm htn c2]
                    by_cases e : r = top
                    · rw [if_pos e, if_pos e]
                      by_cases e2 : top = k
                      · rw [if_pos e2, e2]
                      · rw [if_neg e2, if_pos rfl]
                    · rw [if_neg e, if_neg e]
                      by_cases e2 : r = k
                      · rw [if_pos e2, if_pos e2]
                      · rw [if_neg e2, if_neg e2, if_neg e]
                have hDp : pivF D k top p top = p := by unfold pivF; rw [if_pos rfl]
                have hsp4 : BSep (.slice ab top cb) g (pivF D k top p) n := fun b hb => ⟨(hsp b hb).1, fun i hi => by
                  have h1 := hbglt.out b hb
                  unfold pivF
                  (repeat' split)
                  · omega
                  · exact (hsp b hb).2 _ htn
                  · exact (hsp b hb).2 _ hi⟩
                go_wp2
                clear y5 y6 f2 f6 HX2 HPV hDlt hbgS hbglt hbs hb1 hbg1 ho1 hsp HV0 HSS
                generalize (wr.setCell ⟨g, top, none⟩ (.slice (some ⟨p, 0, none⟩) c c1)) = w4 at *
                generalize pivF D k top p = D4 at *
                generalize pivF C_ k top c1 = C4 at *
                generalize pivL P k top (rowF (fun s => en P k s * ov % 9973) c) = P4 at *
                generalize swapL P top k = Q at *
                go_loopw [16] (fun v wt => ∃ (i : Nat) (P9 : List (List Int)), i ≤ n ∧ v = .int .i64 i ∧ OwMD wt w.heap.size 32 3 g D4 C4 n cz P9 ∧ OwI wt w.heap.size 3 ab top cb ps ∧ Hid (IsR n c P9 (clearP Q top q ov i 0)) ∧ Below w.heap.size w wt) (fun v _ => n - (intOf v).toNat)
                case atStart => exact ⟨0, P4, Nat.zero_le _, rfl, hP4, hbg2, hi0, hb2⟩
                case round =>
                  clear hP4 hbg2 hi0 hb2
                  obtain ⟨i, P9, hin, rfl, hd, hbg, hi, hb⟩ := hrel
                  by_cases hlt : i < n
                  · have x1 := hd.cellO hlt
                    rw [hi.out.1.2 i hlt] at x1
                    have x2 := hd.cellI hlt (j := q) (by rw [hi.out.1.2 i hlt]; exact hqc2)
                    have b3 : (i : Int) < (n : Int) := by omega
                    have nx : ∀ {P : List (List Int)}, IsR n c P (clearP Q top q ov i c) → IsR n c P (clearP Q top q ov (i + 1) 0) := fun h => h.congr fun a b _ h4 => by
                      unfold clearP
                      by_cases e : a < i ∨ (a = i ∧ b < c)
                      · rw [if_pos e, if_pos (by omega)]
                      · rw [if_neg e, if_neg (by omega)]
                    by_cases hit : i = top
                    · have z3 : ((i : Int) != (top : Int)) = false := bne_eq_false_iff_eq.2 (by omega)
                      have HK := Lib.hid hit
                      clear hit
                      go_wp2
                      go_roundw
                      case rel => exact ⟨i + 1, P9, by omega, by go_num, hd, hbg, nx (hi.out.congr fun a b h3 h4 => by
                        unfold clearP
                        by_cases e : a < i
                        · rw [if_pos (by omega), if_pos (by omega)]
                        · by_cases e2 : a = i
                          · rw [if_neg (by omega), if_pos (by omega)]
                            exact (clearO_same HI.out.ent h3 h4 (.inl (by rw [e2, HK.out]))).symm
                          · rw [if_neg (by omega), if_neg (by omega)]), hb⟩
                      case measure => simp [intOf]; omega
                    · have z3 : ((i : Int) != (top : Int)) = true := bne_iff_ne.2 (by omega)
                      have e1 : en P9 i q = en Q i q := by
                        rw [hi.out.2 i q hlt hqc2]
                        unfold clearP scaleE
                        rw [if_neg (by omega), if_neg hit]
                      rw [e1] at x2
                      have HK := Lib.hid hit
                      clear hit e1
                      have m3 := HI.out.ent i q hlt hqc2
                      obtain ⟨by_, hBy⟩ : ∃ by_, by_ = en Q i q := ⟨_, rfl⟩
                      rw [← hBy] at m3 x2
                      have HBY := Lib.hid hBy
                      clear hBy
                      go_wp2
                      clear x1 x2
                      go_loopw [18] (fun v wt => ∃ (s : Nat) (P9 : List (List Int)), s ≤ c ∧ v = .int .i64 s ∧ OwMD wt w.heap.size 32 3 g D4 C4 n cz P9 ∧ OwI wt w.heap.size 3 ab top cb ps ∧ Hid (IsR n c P9 (clearP Q top q ov i s)) ∧ Below w.heap.size w wt) (fun v _ => c - (intOf v).toNat)
                      case atStart => exact ⟨0, P9, Nat.zero_le _, rfl, hd, hbg, hi, hb⟩
                      case round =>
                        clear hd hbg hi hb
                        obtain ⟨s, P9, hsc, rfl, hd, hbg, hi, hb⟩ := hrel
                        by_cases hsk : s < c
                        · have x1 := hd.cellO hlt
                          rw [hi.out.1.2 i hlt] at x1
                          have x2 := hd.cellI hlt (j := s) (by rw [hi.out.1.2 i hlt]; exact hsk)
                          have x5 := hd.cellI htn (j := s) (by rw [hi.out.1.2 top htn]; exact hsk)
                          have x3 := hd.frozenI hlt (by rw [hi.out.1.2 i hlt]; omega) s
                          rw [hDp] at x5
                          have e1 : en P9 i s = en Q i s := by
                            rw [hi.out.2 i s hlt hsk]
                            unfold clearP scaleE
                            rw [if_neg (by omega), if_neg HK.out]
                          have e2 : en P9 top s = en Q top s * ov % 9973 := by
                            rw [hi.out.2 top s htn hsk]
                            unfold clearP clearO scaleE
                            rw [if_pos rfl, if_pos rfl]
                            split <;> rfl
                          rw [e1] at x2
                          rw [e2] at x5
                          obtain ⟨V, hV⟩ : ∃ V, V = en Q top s * ov % 9973 := ⟨_, rfl⟩
                          rw [← hV] at x5
                          have hv : 0 ≤ V ∧ V ≤ 9972 := by omega
                          have m2 := HI.out.ent i s hlt hsk
                          have p2 := mul_bd m3 hv
                          obtain ⟨Y, hY⟩ : ∃ Y, Y = by_ * V := ⟨_, rfl⟩
                          rw [← hY] at p2
                          have u1 : IntKind.i64.wrap (by_ * V) = Y := by rw [hY]; exact Go.IntWalk.i64_in _ (by omega)
                          have u2 : IntKind.i64.wrap (en Q i s - Y) = en Q i s - Y := Go.IntWalk.i64_in _ (by omega)
                          have b7 : (s : Int) < (c : Int) := by omega
                          have HY := Lib.hid hY
                          have HV := Lib.hid hV
                          have hbgn := (OwI.setSep (p := ⟨D4 i, s, none⟩) hbg (fun b hb => (hsp4 b hb).2 i hlt) (.int .i64 ((en Q i s - Y) % 9973))).drew
                          clear hY hV e1 e2
                          go_wp2
                          go_still_tail 21, (by kernel_rfl)
                          still_call (stillW (R_Mod_any _ _ (by omega) (by omega)))
                          repeat still_step
                          refine wpStill_nil ?_
                          change wpList _ _ _ _ _ wr.drew
                          clear u1 u2
                          go_wp2
                          go_roundw
                          case rel => exact ⟨s + 1, _, by omega, by go_num, (hd.set matTy.ne hlt _).drew, hbgn, ⟨hi.out.1.setE _ _ _, fun a b h3 h4 => by
                            rw [hi.out.1.en_set _ h3 h4]
                            by_cases e : i = a ∧ s = b
                            · rw [if_pos e]
                              unfold clearP clearO
                              rw [if_pos (by omega), ← e.1, ← e.2, if_neg HK.out, HY.out, HV.out, HBY.out]
                            · rw [if_neg e, hi.out.2 a b h3 h4]
                              unfold clearP
                              by_cases e2 : a < i ∨ (a = i ∧ b < s)
                              · rw [if_pos e2, if_pos (by omega)]
                              · rw [if_neg e2, if_neg (by omega)]⟩, (hb.setCell (p := ⟨D4 i, s, none⟩) (hd.lowI hlt).1 _).drew⟩
                          case measure => simp [intOf]; omega
                        · obtain rfl : c = s := by omega
                          go_wp2
                          go_roundw
                          case rel => exact ⟨i + 1, P9, by omega, by go_num, hd, hbg, nx hi.out, hb⟩
                          case measure => simp [intOf]; omega
                  · obtain rfl : n = i := by omega
                    have HC : Hid (GInv n c (mx M) (q + 1) P9 (ps ++ [(q : Int)])) := by
                      refine HI.out.clear (by rw [← HT.out]; exact htn) hqc2 (by rw [← HT.out]; exact HPN.out) (hi.out.congr fun a b h3 _ => ?_)
                      unfold clearP clearO clearE
                      rw [if_pos (.inl h3), ← HT.out, HOQ.out]
                    have hle6 : (ps ++ [(q : Int)]).length = top + 1 := by rw [HT.out]; simp
                    have hbsz := hb.size
                    go_wp2_with (at_builtin; refine wpList_push_int2 HIT.out rfl (.tmp 125) (.tmp 127) rfl rfl rfl (hbg.alloc _) (z := (q : Int)) (by simp) (by decide) (by decide) (by omega) (by simp; omega) ?_; intro a6 cap6 w9 ho6 hg6 hk6)
                    have hd9 := (hd.alloc (.cells #[.int .i64 (q : Int)] 3)).grownElse hg6 (fun r e => hsp4 r e)
                    have hb10 := (hb.alloc hb.size (.cells #[.int .i64 (q : Int)] 3)).grown hg6 (by simp; omega) (fun r e => (hbg.own.lt r e).1)
                    have hsp9 : BSep (.slice a6 (top + 1) cap6) g D4 n := fun b hb => by
                      rcases hk6 b hb with h7 | h7
                      · exact hsp4 b h7.symm
                      · have h8 := hd.lowO.2
                        refine ⟨by simp at h7; omega, fun i hi => ?_⟩
                        have h9 := (hd.lowI hi).2
                        simp at h7; omega
                    go_roundw
                    case rel => exact ⟨q + 1, ps ++ [(q : Int)], a6, cap6, D4, C4, P9, by omega, by go_num, by rw [hle6], by rw [hle6]; exact ho6, hd9, HC, by rw [hle6]; exact hsp9, hb10⟩
                    case measure => simp [intOf]; omega
    · obtain rfl : q = cols := by omega
      go_wp2
      go_ret2
      exact ⟨_, _, _, _, _, _, rfl, hdm.toM.rd, hbg.rd, HG.out, hb⟩
end Go.Proofs.YtkielldinghmbaaDoor
namespace Go.Proofs.YtkielldinghmbaaDoor
open Go.RowKit Go.Rk

/-- Rows of the free columns are one list. -/
theorem Nul.same {n c : Nat} {A : Mx} {P L L' : List (List Int)} {ps : List Int} (g : GInv n c A c P ps) (h : Nul c c P ps L) (h' : Nul c c P ps L') : L = L' := by
  have hl : L.length = L'.length := by rw [h.len, h'.len]
  refine en_ext hl (fun k hk => ?_) fun i j hi hj => ?_
  · rw [(h.row k hk).len, (h'.row k (by omega)).len]
  · have r1 := h.row i hi
    have r2 := h'.row i (by omega)
    rw [r1.len] at hj
    show ix (rowOf L i) j = ix (rowOf L' i) j
    by_cases e : j = freeAt ps c i
    · rw [e, r1.one, r2.one]
    · cases hb : hasB (j : Int) ps
      · rw [r1.zer j hj e hb, r2.zer j hj e hb]
      · obtain ⟨k, hk, rfl⟩ := (hasB_pos g.pos).1 hb
        rw [r1.piv k hk, r2.piv k hk]

def colT (Q : List (List Int)) (c n : Nat) : List Int := (List.range n).map fun i => en Q i c
theorem colT_len (Q : List (List Int)) (c n : Nat) : (colT Q c n).length = n := by simp [colT]
theorem colT_ix {Q : List (List Int)} {c n i : Nat} (h : i < n) : ix (colT Q c n) i = en Q i c := by rw [ix_lt (by rw [colT_len]; exact h)]; simp [colT]
def leftL (Q : List (List Int)) (c n : Nat) : List (List Int) := rowsF (fun i j => en Q i j) c n
theorem leftL_is (Q : List (List Int)) (c n : Nat) : IsR n c (leftL Q c n) (fun i j => en Q i j) := rowsF_is _ _ _
theorem GInv.cutR {n c : Nat} {A : Mx} {Q : List (List Int)} {qs : List Int} (g : GInv n (c + 1) A c Q qs) : RInv n c A c (leftL Q c n) (colT Q c n) qs := by
  have e : Q = augL n (leftL Q c n) (colT Q c n) := aug_ext (leftL_is Q c n).1 g.dm (fun i j hi hj => ((leftL_is Q c n).2 i j hi hj).symm) (fun i hi => (colT_ix hi).symm)
  refine ⟨?_, (leftL_is Q c n).1, colT_len _ _ _⟩
  rw [← e]
  exact g

section
variable {n c : Nat} {M P P2 : List (List Int)} {t T T2 ps qs x y : List Int}
theorem solves0 (hd : Dm n c M) (h : RInv n c (mx (augL n M t)) c P T ps) (hx : XRow c T ps x) (hz : ∀ i, ps.length ≤ i → i < n → ix T i = 0) {i : Nat} (hi : i < n) : Eqm (sumTo (fun j => en M i j * ix x j) c) (ix t i) := by
  have st : Stairs n c ps.length (mx P) (natsOf ps) := (h.left hd).st
  have hp := h.inv.pos
  have n2 : ∀ i, i < n → Eqm (sumTo (fun j => en P i j * ix x j) c) (ix T i) := fun i hi => by
    have e1 : ∀ j, j < c → ix x j = sumTo (fun k => (if natsOf ps k = j then 1 else 0) * ix T k) ps.length := fun j hj => by
      cases hb : hasB (j : Int) ps
      · rw [hx.zer j hj hb, sumTo_congr (h := fun _ => 0) fun k hk => by rw [if_neg (fun e => by rw [(hasB_pos hp).2 ⟨k, hk, e⟩] at hb; cases hb), Int.zero_mul]]
        exact (sumTo_zero _).symm
      · obtain ⟨k, hk, rfl⟩ := (hasB_pos hp).1 hb
        rw [hx.piv k hk, sumTo_congr (h := fun m => (if k = m then 1 else 0) * ix T m) fun m hm => ?_]
        · exact (sumTo_pick (fun m => ix T m) hk).symm
        · by_cases e3 : k = m
          · rw [if_pos (by rw [e3]), if_pos e3]
          · rw [if_neg fun e4 => ?_, if_neg e3]
            rcases Nat.lt_trichotomy k m with h1 | h1 | h1
            · have := st.inc k m h1 hm; omega
            · exact e3 h1
            · have := st.inc m k h1 hk; omega
    have e2 : sumTo (fun j => en P i j * ix x j) c = sumTo (fun k => en P i (natsOf ps k) * ix T k) ps.length := by
      rw [sumTo_congr (h := fun j => sumTo (fun k => (if natsOf ps k = j then 1 else 0) * (en P i j * ix T k)) ps.length) fun j hj => by
        rw [e1 j hj, ← sumTo_mul]
        exact sumTo_congr fun k _ => by grind, sumTo_swap]
      exact sumTo_congr fun k hk => sumTo_pick (fun j => en P i j * ix T k) (st.lt k hk)
    rw [e2]
    have e3 : Eqm (sumTo (fun k => en P i (natsOf ps k) * ix T k) ps.length) (sumTo (fun k => (if i = k then 1 else 0) * ix T k) ps.length) := sumTo_eqm fun k hk => Eqm.mul (st.one i k hi hk) (Eqm.refl _)
    refine e3.trans ?_
    rcases Nat.lt_or_ge i ps.length with h1 | h1
    · rw [sumTo_pick (fun k => ix T k) h1]
      exact Eqm.refl _
    · rw [sumTo_congr (h := fun _ => 0) fun k hk => by rw [if_neg (by omega), Int.zero_mul], sumTo_zero, hz i h1 hi]
      exact Eqm.refl _
  have n3 := h.inv.back.null (v := withM (ix x) c) (fun k hk => by
    rw [aug_null h.dP (ix x) hk]
    have := Eqm.sub (n2 k hk) (Eqm.refl (ix T k))
    rwa [Int.sub_self] at this) hi
  rw [aug_null hd (ix x) hi] at n3
  unfold Eqm at n3 ⊢
  omega

/-- What is told of two reductions of one system is one row. -/
theorem solve_same (hd : Dm n c M) (hl : t.length = n) (it : In 0 9972 t) (h : RInv n c (mx (augL n M t)) c P T ps) (hx : XRow c T ps x) (g : RInv n c (mx (augL n M t)) c P2 T2 qs) (hy : XRow c T2 qs y) (hz : ∀ i, qs.length ≤ i → i < n → ix T2 i = 0) :
    toN M x c n = t ∧ x = y := by
  have sy := fun i (hi : i < n) => solves0 hd g hy hz hi
  have tx := told hd h hx hl it (ix y) sy
  refine ⟨tx, ?_⟩
  obtain ⟨eP, eps⟩ := (h.left hd).same (g.left hd) (Made.refl _ _ _) (Made.refl _ _ _)
  have sx : ∀ i, i < n → Eqm (sumTo (fun j => en M i j * ix x j) c) (ix t i) := fun i hi => by
    have := toN_ix (M := M) (l := x) (c := c) hi
    rw [tx] at this
    rw [this]
    exact (Eqm.mod _).symm
  have nv := fun i (hi : i < n) => (h.left hd).made.null (v := fun j => ix x j - ix y j) (fun k hk => by
    rw [sumTo_congr (h := fun j => en M k j * ix x j + (-1) * (en M k j * ix y j)) fun j _ => by show en M k j * (ix x j - ix y j) = _; rw [Int.mul_sub]; omega, sumTo_add, sumTo_mul]
    have e1 := sx k hk
    have e2 := sy k hk
    unfold Eqm at e1 e2 ⊢
    omega) hi
  have bx := hx.range h.eT (by rw [h.lT]; exact (h.left hd).st.le) h.inv.pos
  have by_ := hy.range g.eT (by rw [g.lT]; exact (g.left hd).st.le) g.inv.pos
  refine ix_ext (by rw [hx.len, hy.len]) fun j hj => ?_
  have hjc : j < c := by rw [hx.len] at hj; exact hj
  have e := null_zero (h.left hd).st h.inv.pos nv (fun j hj hb => by
    rw [hx.zer j hj hb, hy.zer j hj (by rw [← eps]; exact hb)]
    exact Eqm.refl _) hjc
  have b1 := bx j hj
  have b2 := by_ j (by rw [hy.len]; exact hjc)
  unfold Eqm at e
  omega

theorem solve_none (hd : Dm n c M) (g : RInv n c (mx (augL n M t)) c P2 T2 qs) {i : Nat} (h1 : qs.length ≤ i) (hi : i < n) (hne : ix T2 i ≠ 0) : toN M x c n ≠ t := by
  intro tx
  have sx : ∀ i, i < n → Eqm (sumTo (fun j => en M i j * ix x j) c) (ix t i) := fun i hi => by
    have := toN_ix (M := M) (l := x) (c := c) hi
    rw [tx] at this
    rw [this]
    exact (Eqm.mod _).symm
  have n1 := g.inv.made.null (v := withM (ix x) c) (fun k hk => by
    rw [aug_null hd (ix x) hk]
    have := Eqm.sub (sx k hk) (Eqm.refl (ix t k))
    rwa [Int.sub_self] at this) hi
  rw [aug_null g.dP (ix x) hi] at n1
  have e4 : Eqm (sumTo (fun j => en P2 i j * ix x j) c) (sumTo (fun _ => 0) c) := sumTo_eqm fun j hj => by
    have := Eqm.mul ((g.left hd).st.low i j h1 hi hj) (Eqm.refl (ix x j))
    rwa [Int.zero_mul] at this
  rw [sumTo_zero] at e4
  have b := g.eT i (by rw [g.lT]; exact hi)
  unfold Eqm at n1 e4
  omega
end
end Go.Proofs.YtkielldinghmbaaDoor
namespace Go.Proofs.YtkielldinghmbaaDoor
open Go.RowKit Go.Rk

set_option maxHeartbeats 4000000 in
set_option maxRecDepth 100000 in
theorem M_Null_any {a : Option Addr} {n c ca : Nat} {M : List (List Int)} {w : World} (hM : RdM w a n ca M) (d : Dm n c M) (he : EntR 0 9972 n c M) (n1 : 1 ≤ n ∧ n ≤ 100) (c1 : 1 ≤ c ∧ c ≤ 100) :
    Calls Tryd.prog 48 #[.slice a n ca] w fun e w' => ∃ al cl L P ps, e = .returned (.slice al L.length cl) ∧ OwM w' w.heap.size 32 3 al L.length cl L ∧ GInv n c (mx M) c P ps ∧ Nul c c P ps L ∧ Below w.heap.size w w' := by
  have HM := Lib.hid matTy
  have HDD := Lib.hid d
  have C := Lib.hid (R_Stairs_any (cols := c) hM d he (by omega) (by omega) (by omega) (Nat.le_refl _) (by omega))
  obtain ⟨bm0, om0, rfl, am0, cm0, hm00, _⟩ := hM.rowIn d (k := 0) (by omega)
  rw [Nat.add_zero] at hm00
  have b1 : (0 : Int) < (n : Int) := by omega
  have b2 : (1 : Int) ≤ (n : Int) := by omega
  clear d he
  go_enter Tryd.func48, Tryd.ntmps48
  go_wp2_with (go_at_call 30; fail)
  (with_reducible refine C.out.mono ?_)
  clear C
  rintro e w2 ⟨ao, co, ap, cp, P, ps, rfl, hP, hps, hi, hb2⟩
  have HI := Lib.hid hi
  have hm0 := hb2.keep (World.block_lt_of_cell? _ _ hm00) hm00
  clear hi hm00
  have hpl : ps.length ≤ n := HI.out.st.le
  have hMh := Lib.hid hm0
  clear hm0
  go_wp2
  go_loopw [5, 6] (fun v x wr => ∃ (q : Nat) (al : Option Addr) (cl : Nat) (L : List (List Int)), q ≤ c ∧ x = .int .i64 q ∧ v = .slice al L.length cl ∧ OwM wr w2.heap.size 32 3 al L.length cl L ∧ Hid (Nul c q P ps L) ∧ Below w2.heap.size w2 wr) (fun _ x _ => c - (intOf x).toNat)
  case atStart => exact ⟨0, none, 0, [], Nat.zero_le _, rfl, rfl, OwM.nil _ _ _ _, Nul.start _ _ _, Below.refl _ _⟩
  case round =>
    obtain ⟨q, al, cl, L, hq, rfl, rfl, ho, hN, hb⟩ := hrel
    obtain ⟨wo, hwo⟩ : ∃ wo, wo = wr := ⟨_, rfl⟩
    subst hwo
    have hm0 := hb.keep (World.block_lt_of_cell? _ _ hMh.out) hMh.out
    by_cases hqc : q < c
    · have hps := hps.below hb
      have i0 : (q : Int) < (c : Int) := by omega
      have hLl : L.length ≤ q := by
        rw [hN.out.len]
        have := List.length_filter_le (fun (j : Nat) => !hasB (j : Int) ps) (List.range q)
        simp at this
        exact this
      have C := Lib.hid (R_Has_any (q : Int) hps)
      have hsz := hb.size
      cases hbq : hasB (q : Int) ps
      · rw [hbq] at C
        have HB := Lib.hid hbq
        clear hbq
        go_wp2_with (first
          | (go_at_call 76; (with_reducible refine C.out.mono ?_); rintro e w' ⟨rfl, rfl⟩)
          | (refine wpList_make_ints HM.out.int rfl (.tmp 32) (.tmp 32) rfl rfl rfl (by omega) ?_; intro w4 ho4 hb4; obtain ⟨g4, hz, hg41, hg42, hc4, hf4⟩ := ho4.at (by omega); cases hz; have y3 := hc4 q hqc; have y4 := hf4 q; have hb5 := hb4.setCell (p := ⟨wo.heap.size, q, none⟩) (Nat.le_refl _) (.int .i64 1); clear hc4 hf4))
        clear C
        have ho5 := ho4.set (k := q) 1
        clear y3 y4 ho4 hb4
        generalize w4.setCell ⟨wo.heap.size, q, none⟩ (.int .i64 1) = w5 at *
        go_loopw [8] (fun v wt => ∃ (i : Nat) (xs : List Int), i ≤ ps.length ∧ v = .int .i64 i ∧ OwI wt wo.heap.size 3 (some ⟨wo.heap.size, 0, none⟩) c c xs ∧ Hid (NPart c P ps q i xs) ∧ Below wo.heap.size wo wt) (fun v _ => ps.length - (intOf v).toNat)
        case atStart => exact ⟨0, _, Nat.zero_le _, rfl, ho5, NPart.start P ps hqc, hb5⟩
        case round =>
          clear ho5 hb5 hm0
          obtain ⟨i, xs, hi, rfl, hx, hX, hbt⟩ := hrel
          by_cases hir : i < ps.length
          · have hir' : (i : Int) < (ps.length : Int) := by omega
            have hin : i < n := by omega
            have hin' : (i : Int) < (n : Int) := by omega
            have kt := hb.trans (hbt.mono hsz)
            obtain ⟨bp, op, rfl, _, hcp⟩ := (hps.below hbt).at hir
            replace hcp := hcp i hir
            have hpi : ix ps i = (natsOf ps i : Int) := by unfold natsOf; have := HI.out.pos i hir; omega
            have hpc : natsOf ps i < c := HI.out.st.lt i hir
            rw [hpi] at hcp
            have HS := Lib.hid (hX.out.step HI.out.st HI.out.pos HB.out hir)
            clear hpi
            generalize natsOf ps i = p at hcp hpc HS
            have hpc' : (p : Int) < (c : Int) := by omega
            obtain ⟨bP, oP, rfl, ar, cr, hcr, hrd⟩ := (hP.below kt).rowIn HI.out.dm hin
            obtain ⟨br, or_, rfl, _, hce⟩ := hrd.at hqc
            replace hce := hce q hqc
            rw [show ix (rowOf P i) q = en P i q from rfl] at hce
            have be := HI.out.ent i q hin hqc
            generalize en P i q = E at hce be HS
            obtain ⟨g5, hz, _, _, hcx, hfx⟩ := hx.at (by omega)
            cases hz
            replace hcx := hcx p hpc
            replace hfx := hfx p
            have u1 : IntKind.i64.wrap (-E) = -E := Go.IntWalk.i64_in _ (by omega)
            clear hrd
            go_wp2
            go_still_tail 15, (by kernel_rfl)
            still_call (stillW (R_Mod_any _ _ (by omega) (by omega)))
            repeat still_step
            refine wpStill_nil ?_
            change wpList _ _ _ _ _ wr.drew
            clear u1
            go_wp2
            go_roundw
            case rel => exact ⟨i + 1, _, by omega, by go_num, (hx.set _).drew, HS, (hbt.setCell (p := ⟨wo.heap.size, p, none⟩) (Nat.le_refl _) _).drew⟩
            case measure => simp [intOf]; omega
          · obtain rfl : i = ps.length := by omega
            go_wp2_with (at_builtin; refine wpList_push_row HM.out rfl (.tmp 58) (.tmp 60) rfl rfl rfl ho (hbt.alloc hbt.size _) (hx.below ((Below.refl _ _).alloc (Nat.le_refl _) _)) (by rw [World.cell?_alloc_at _ _ _ _ (by simp)]; rfl) (by omega) hsz ?_; intro a5 cap5 w5 ho5 hb6)
            have hb7 := ((hb.trans (hbt.mono hsz)).alloc (by have := hbt.size; omega) _).trans hb6
            have e1 : (L ++ [xs]).length = L.length + 1 := by simp
            go_roundw
            case rel => exact ⟨q + 1, a5, cap5, L ++ [xs], by omega, by go_num, by rw [e1], by rw [e1]; exact ho5, hN.out.push HB.out ⟨hX.out.len, hX.out.one, hX.out.piv, hX.out.zer⟩, hb7⟩
            case measure => simp [intOf]; omega
      · rw [hbq] at C
        have HB := Lib.hid hbq
        clear hbq
        go_wp2_with (first
          | (go_at_call 76; (with_reducible refine C.out.mono ?_); rintro e w' ⟨rfl, rfl⟩))
        clear C
        go_roundw
        case rel => exact ⟨q + 1, al, cl, L, by omega, by go_num, rfl, ho, hN.out.pass HB.out, hb⟩
        case measure => simp [intOf]; omega
    · obtain rfl : q = c := by omega
      go_wp2
      go_ret
      exact ⟨al, cl, L, rfl, ho.mono hb2.size, P, ps, HI.out, hN.out, below_tr hb2 hb⟩

theorem augL_succ (k : Nat) (M : List (List Int)) (t : List Int) : augL (k + 1) M t = augL k M t ++ [rowOf M k ++ [ix t k]] := by simp [augL, List.range_succ]

set_option maxHeartbeats 4000000 in
set_option maxRecDepth 100000 in
theorem M_Solve_any {a b : Option Addr} {n c ca cb : Nat} {M : List (List Int)} {t : List Int} {w : World} (hM : RdM w a n ca M) (d : Dm n c M) (he : EntR 0 9972 n c M) (n1 : 1 ≤ n ∧ n ≤ 100) (c1 : 1 ≤ c ∧ c ≤ 100) (ht : RdI w b n cb t) (it : In 0 9972 t) :
    Calls Tryd.prog 51 #[.slice a n ca, .slice b n cb] w fun e w' => ∃ Q qs, RInv n c (mx (augL n M t)) c (leftL Q c n) (colT Q c n) qs ∧
      (((∀ i, qs.length ≤ i → i < n → ix (colT Q c n) i = 0) ∧ ∃ x ax cx, e = .returned (.tuple #[.slice ax c cx, .bool true]) ∧ OwI w' w.heap.size 3 ax c cx x ∧ XRow c (colT Q c n) qs x) ∨
       ((∃ i, qs.length ≤ i ∧ i < n ∧ ix (colT Q c n) i ≠ 0) ∧ e = .returned (.tuple #[.slice none 0 0, .bool false]))) ∧ Below w.heap.size w w' := by
  have HM := Lib.hid matTy
  have HD := Lib.hid d
  have HA : Hid (Dm n (c + 1) (augL n M t)) := augL_dm d
  have HE : Hid (EntR 0 9972 n (c + 1) (augL n M t)) := fun i j hi hj => by
    rcases Nat.lt_or_ge j c with h1 | h1
    · rw [augL_l d hi h1]; exact he i j hi h1
    · obtain rfl : j = c := by omega
      rw [augL_r d hi]; exact it i (by rw [ht.len_eq]; exact hi)
  obtain ⟨bm, om, rfl, hbm, hr⟩ := hM.at (k := 0) (by omega)
  obtain ⟨bt, ot, rfl, hbt, hct⟩ := ht.at (k := 0) (by omega)
  have HR : Hid (∀ k, k < n → ∃ ar cr, w.cell? ⟨bm, om + k, none⟩ = some (.slice ar c cr) ∧ RdI w ar c cr (rowOf M k)) := fun k hk => by
    obtain ⟨ar, cr, e1, e2⟩ := hr k hk
    rw [d.2 k hk] at e1 e2
    exact ⟨ar, cr, e1, e2⟩
  have HCT := Lib.hid hct
  have b1 : (0 : Int) < (n : Int) := by omega
  have b2 : (1 : Int) ≤ (n : Int) := by omega
  clear hr hct d he it
  go_enter Tryd.func51, Tryd.ntmps51
  go_wp2
  go_loopw [6, 7] (fun v x wr => ∃ (k : Nat) (q : Option Addr) (cq : Nat), k ≤ n ∧ x = .int .i64 k ∧ v = .slice q k cq ∧ OwM wr w.heap.size 32 3 q k cq (augL k M t) ∧ Below w.heap.size w wr) (fun _ x _ => n - (intOf x).toNat)
  case atStart => exact ⟨0, none, 0, Nat.zero_le _, rfl, rfl, OwM.nil _ _ _ _, Below.refl _ _⟩
  case round =>
    obtain ⟨k, q, cq, hk, rfl, rfl, ho, hb⟩ := hrel
    obtain ⟨wo, rfl⟩ : ∃ x, x = wr := ⟨_, rfl⟩
    have hsz := hb.size
    by_cases hlt : k < n
    · have i1 : (k : Int) < (n : Int) := by omega
      obtain ⟨ar, cr, e1, e2⟩ := HR.out k hlt
      have y1 := hb.keep hbm e1
      have hrd := e2.below hb
      have y2 := hb.keep hbt (HCT.out k hlt)
      have hbt2 : bt < wo.heap.size := by omega
      clear e1 e2
      go_wp2_with (first
        | (at_builtin; refine wpList_append_ints HM.out.int rfl (.tmp 20) (.tmp 24) rfl rfl rfl (OwI.nil wo wo.heap.size _) hrd (by omega) (Nat.le_refl _) ?_; intro a3 cap3 w3 ho3 hg3; have hb3 := below_of_grown hg3; rw [Nat.zero_add, List.nil_append] at ho3; have y3 := hb3.keep hbt2 y2; have hs3 := hb3.size)
        | (at_builtin; refine wpList_push_int HM.out.int rfl (.tmp 27) (.tmp 32) rfl rfl rfl (ho3.alloc _) (z := ix t k) (by simp) (by decide) (by decide) (by omega) (by simp; omega) ?_; intro a4 cap4 w4 ho4 hg4; have hb4 := below_grown (hb3.alloc hs3 (.cells #[.int .i64 (ix t k)] 3)) (ho3.alloc _) (by simp; omega) hg4; have hs4 := hb4.size)
        | (at_builtin; refine wpList_push_row HM.out rfl (.tmp 26) (.tmp 34) rfl rfl rfl ho (hb4.alloc hs4 _) (ho4.alloc _) (by simp) (by omega) hsz ?_; intro a5 cap5 w5 ho5 hb5))
      have hb6 := (hb.trans ((hb4.alloc hs4 _).mono hsz)).trans hb5
      go_roundw
      case rel => exact ⟨k + 1, a5, cap5, by omega, by go_num, rfl, by rw [augL_succ]; exact ho5, hb6⟩
      case measure => simp [intOf]; omega
    · obtain rfl : n = k := by omega
      obtain ⟨ar, cr, e1, _⟩ := HR.out 0 (by omega)
      have y1 := hb.keep hbm e1
      rw [Nat.add_zero] at y1
      have C := Lib.hid (R_Stairs_any (cols := c) ho.rd HA.out HE.out (by omega) (by omega) (by omega) (by omega) (by omega))
      clear ho e1
      go_wp2_with (go_at_call 30; fail)
      (with_reducible refine C.out.mono ?_)
      clear C
      rintro e w2 ⟨ao, co, ap, cp, Q, qs, rfl, hQ, hqs, hi, hb2⟩
      have hb3 := below_tr hb hb2
      have HG := Lib.hid hi
      have HI := Lib.hid (GInv.cutR hi)
      have hql : qs.length ≤ n := hi.st.le
      have hs2 := hb3.size
      clear hi y1 hb2
      go_wp2_with (refine wpList_make_ints HM.out.int rfl (.tmp 46) (.tmp 46) rfl rfl rfl (by omega) ?_; intro w4 ho4 hb4)
      go_loopw [13] (fun v wr => ∃ (i : Nat) (xs : List Int), i ≤ n ∧ v = .int .i64 i ∧ OwI wr w2.heap.size 3 (some ⟨w2.heap.size, 0, none⟩) c c xs ∧ Hid (XPart c (colT Q c n) qs (min i qs.length) xs) ∧ Hid (∀ k, qs.length ≤ k → k < i → ix (colT Q c n) k = 0) ∧ Below w2.heap.size w2 wr) (fun v _ => n - (intOf v).toNat)
      case atStart => exact ⟨0, _, Nat.zero_le _, rfl, ho4, by unfold Hid; rw [Nat.zero_min]; exact XPart.start _ _ _, fun k _ h => absurd h (Nat.not_lt_zero _), hb4⟩
      case round =>
        clear ho4 hb4
        obtain ⟨i, xs, hin, rfl, hx, hX, hZ, hbw⟩ := hrel
        have kw := below_tr hb3 hbw
        by_cases hlt2 : i < n
        · have i2 : (i : Int) < (n : Int) := by omega
          obtain ⟨N, hN⟩ : ∃ N, N = c + 1 := ⟨_, rfl⟩
          have i3 : (c : Int) < (N : Int) := by omega
          obtain ⟨bQ, oQ, rfl, ar, cr, hcr, hrd⟩ := (hQ.below hbw).rowIn HG.out.dm hlt2
          rw [← hN] at hcr
          obtain ⟨br, or_, rfl, _, hce⟩ := hrd.at (k := c) (by omega)
          replace hce := hce c (by omega)
          rw [show ix (rowOf Q i) c = en Q i c from rfl, ← colT_ix (Q := Q) (c := c) hlt2] at hce
          clear hrd hN
          by_cases hiq : i < qs.length
          · have i4 : (i : Int) < (qs.length : Int) := by omega
            have HS := hX.out
            rw [show min i qs.length = i from Nat.min_eq_left (by omega)] at HS
            have HS := Lib.hid (HS.step HG.out.st HG.out.pos hiq)
            obtain ⟨bp, op, rfl, _, hcp⟩ := (hqs.below hbw).at hiq
            replace hcp := hcp i hiq
            have hpi : ix qs i = (natsOf qs i : Int) := by unfold natsOf; have := HG.out.pos i hiq; omega
            have hpc : natsOf qs i < c := HG.out.st.lt i hiq
            rw [hpi] at hcp
            clear hpi
            generalize natsOf qs i = p at hcp hpc HS
            have hpc' : (p : Int) < (c : Int) := by omega
            obtain ⟨V, hV⟩ : ∃ V, V = ix (colT Q c n) i := ⟨_, rfl⟩
            rw [← hV] at hce HS
            obtain ⟨g5, hz, _, _, hcx, hfx⟩ := hx.at (by omega)
            cases hz
            replace hcx := hcx p hpc
            replace hfx := hfx p
            clear hV
            go_wp2
            go_still_tail 13, (by kernel_rfl)
            (try repeat still_step)
            (try refine wpStill_nil ?_)
            change wpList _ _ _ _ _ wr.drew
            go_wp2
            go_roundw
            case rel => exact ⟨i + 1, _, by omega, by go_num, (hx.set _).drew, by unfold Hid; rw [show min (i + 1) qs.length = i + 1 from Nat.min_eq_left (by omega)]; exact HS.out, fun k h1 h2 => absurd h2 (by omega), (hbw.setCell (p := ⟨w2.heap.size, p, none⟩) (Nat.le_refl _) _).drew⟩
            case measure => simp [intOf]; omega
          · have i4 : ¬ (i : Int) < (qs.length : Int) := by omega
            by_cases hv : ix (colT Q c n) i = 0
            · have z1 : (ix (colT Q c n) i != 0) = false := bne_eq_false_iff_eq.2 hv
              have HV := Lib.hid hv
              clear hv
              go_wp2
              go_roundw
              case rel => exact ⟨i + 1, xs, by omega, by go_num, hx, by unfold Hid; rw [show min (i + 1) qs.length = min i qs.length from by omega]; exact hX.out, fun k h1 h2 => by
                rcases Nat.lt_or_ge k i with h3 | h3
                · exact hZ.out k h1 h3
                · obtain rfl : k = i := by omega
                  exact HV.out, hbw⟩
              case measure => simp [intOf]; omega
            · have z1 : (ix (colT Q c n) i != 0) = true := bne_iff_ne.2 hv
              have HV := Lib.hid hv
              clear hv
              go_wp2
              go_ret2
              exact ⟨Q, qs, HI.out, .inr ⟨⟨i, by omega, hlt2, HV.out⟩, rfl⟩, kw⟩
        · obtain rfl : n = i := by omega
          have HX := hX.out
          rw [show min n qs.length = qs.length from Nat.min_eq_right hql] at HX
          have HX := Lib.hid HX
          go_wp2
          go_ret2
          exact ⟨Q, qs, HI.out, .inl ⟨fun k h1 h2 => hZ.out k h1 h2, xs, _, _, rfl, hx.mono hs2, ⟨HX.out.len, HX.out.piv, HX.out.zer⟩⟩, kw⟩
end Go.Proofs.YtkielldinghmbaaDoor
namespace Go.Proofs.YtkielldinghmbaaDoor
open Go.RowKit Go.Rk

/-- A row without place c, of its first k numbers. -/
def cutN (l : List Int) (c : Nat) : Nat → List Int
  | 0 => []
  | k + 1 => if k = c then cutN l c k else cutN l c k ++ [ix l k]
/-- The rows but row r, of the first k, without column c. -/
def woN (M : List (List Int)) (r c : Nat) : Nat → List (List Int)
  | 0 => []
  | k + 1 => if k = r then woN M r c k else woN M r c k ++ [cutN (rowOf M k) c (rowOf M k).length]

theorem cutN_len (l : List Int) (c : Nat) : ∀ k, (cutN l c k).length = if c < k then k - 1 else k := by
  intro k
  induction k with
  | zero => simp [cutN]
  | succ k ih =>
    rw [cutN]
    split
    · next h => rw [ih, if_neg (by omega), if_pos (by omega)]; omega
    · rw [List.length_append, ih]
      by_cases h2 : c < k
      · rw [if_pos h2, if_pos (by omega)]; simp; omega
      · rw [if_neg h2, if_neg (by omega)]; simp
theorem cutN_ix (l : List Int) (c : Nat) : ∀ k j, j < (cutN l c k).length → ix (cutN l c k) j = ix l (skip c j) := by
  intro k
  induction k with
  | zero => intro j hj; simp [cutN] at hj
  | succ k ih =>
    intro j hj
    rw [cutN] at hj ⊢
    split
    · next h => rw [if_pos h] at hj; exact ih j hj
    · next h =>
      rw [if_neg h, List.length_append] at hj
      have hl := cutN_len l c k
      rcases Nat.lt_or_ge j (cutN l c k).length with h1 | h1
      · rw [← ih j h1, ix_lt (by rw [List.length_append]; omega), ix_lt h1, List.getElem_append_left h1]
      · have hj2 : j = (cutN l c k).length := by simp at hj; omega
        subst hj2
        rw [ix_lt (by rw [List.length_append]; simp), List.getElem_append_right (Nat.le_refl _)]
        simp only [Nat.sub_self, List.getElem_cons_zero]
        congr 1
        rw [hl]
        unfold skip
        by_cases h2 : c < k
        · rw [if_pos h2, if_neg (by omega)]; omega
        · rw [if_neg h2, if_pos (by omega)]
theorem woN_len (M : List (List Int)) (r c : Nat) : ∀ k, (woN M r c k).length = if r < k then k - 1 else k := by
  intro k
  induction k with
  | zero => simp [woN]
  | succ k ih =>
    rw [woN]
    split
    · next h => rw [ih, if_neg (by omega), if_pos (by omega)]; omega
    · rw [List.length_append, ih]
      by_cases h2 : r < k
      · rw [if_pos h2, if_pos (by omega)]; simp; omega
      · rw [if_neg h2, if_neg (by omega)]; simp
theorem woN_row (M : List (List Int)) (r c : Nat) : ∀ k j, j < (woN M r c k).length → rowOf (woN M r c k) j = cutN (rowOf M (skip r j)) c (rowOf M (skip r j)).length := by
  intro k
  induction k with
  | zero => intro j hj; simp [woN] at hj
  | succ k ih =>
    intro j hj
    rw [woN] at hj ⊢
    split
    · next h => rw [if_pos h] at hj; exact ih j hj
    · next h =>
      rw [if_neg h, List.length_append] at hj
      have hl := woN_len M r c k
      rcases Nat.lt_or_ge j (woN M r c k).length with h1 | h1
      · rw [rowOf_append_left h1, ih j h1]
      · have hj2 : j = (woN M r c k).length := by simp at hj; omega
        subst hj2
        rw [rowOf_append_right (Nat.le_refl _), Nat.sub_self]
        have e : skip r (woN M r c k).length = k := by
          rw [hl]
          unfold skip
          by_cases h2 : r < k
          · rw [if_pos h2, if_neg (by omega)]; omega
          · rw [if_neg h2, if_pos (by omega)]
        rw [e]
        rfl
/-- What is left without a row and a column of a square matrix. -/
theorem woN_is {n r c : Nat} {M : List (List Int)} (hd : Dim (n + 1) M) (hr : r < n + 1) (hc : c < n + 1) : Is n (woN M r c (n + 1)) (minor (mx M) r c) := by
  have hl : (woN M r c (n + 1)).length = n := by rw [woN_len, if_pos hr]; omega
  have hrow : ∀ i, i < n → (rowOf M (skip r i)).length = n + 1 := fun i hi => hd.2 _ (skip_lt hi)
  have hcl : ∀ i, i < n → (cutN (rowOf M (skip r i)) c (n + 1)).length = n := fun i hi => by rw [cutN_len, if_pos hc]; omega
  refine ⟨⟨hl, fun i hi => ?_⟩, fun i j hi hj => ?_⟩
  · rw [woN_row M r c _ i (by rw [hl]; exact hi), hrow i hi]
    exact hcl i hi
  · unfold en
    rw [woN_row M r c _ i (by rw [hl]; exact hi), hrow i hi, cutN_ix _ _ _ _ (by rw [hcl i hi]; exact hj)]
    rfl

/-- The row in two parts. -/
theorem cutN_parts (l : List Int) {c : Nat} (hc : c < l.length) : cutN l c l.length = l.take c ++ l.drop (c + 1) := by
  have h1 := cutN_len l c l.length
  rw [if_pos hc] at h1
  have h2 : (l.take c ++ l.drop (c + 1)).length = l.length - 1 := by rw [List.length_append, List.length_take, List.length_drop]; omega
  refine ix_ext (h1.trans h2.symm) fun j hj => ?_
  rw [cutN_ix _ _ _ _ hj]
  unfold skip
  by_cases h : j < c
  · rw [if_pos h, ix_append_left (by rw [List.length_take]; omega), ix_take h]
  · rw [if_neg h, ix_append_right (by rw [List.length_take]; omega), ix_drop, List.length_take]
    congr 1
    omega
set_option maxHeartbeats 2000000 in
theorem Cut_any {a : Option Addr} {n cap c i j : Nat} {M : List (List Int)} {w : World} (h : RdM w a n cap M) (d : Dm n c M) (hn : n ≤ 1000) (hc : c ≤ 1000) (hj : j < c) :
    Calls Tryd.prog 90 #[.slice a n cap, .int .i64 i, .int .i64 j] w fun e w' => ∃ a' cap', e = .returned (.slice a' (woN M i j n).length cap') ∧ OwM w' w.heap.size 32 3 a' (woN M i j n).length cap' (woN M i j n) ∧ Below w.heap.size w w' := by
  have HM := Lib.hid matTy
  have HD := Lib.hid d
  clear d
  go_enter Tryd.func90, Tryd.ntmps90
  go_wp2
  go_loopw [7, 13] (fun v x wr => ∃ (k : Nat) (q : Option Addr) (cq : Nat), k ≤ n ∧ x = .int .i64 k ∧ v = .slice q (woN M i j k).length cq ∧ OwM wr w.heap.size 32 3 q (woN M i j k).length cq (woN M i j k) ∧ Below w.heap.size w wr) (fun _ x _ => n - (intOf x).toNat)
  case atStart => exact ⟨0, none, 0, Nat.zero_le _, rfl, rfl, OwM.nil _ _ _ _, Below.refl _ _⟩
  case round =>
    obtain ⟨k, q, cq, hk, rfl, rfl, ho, hb⟩ := hrel
    by_cases hlt : k < n
    · obtain ⟨b, off, rfl, _, hr⟩ := (h.below hb).at hlt
      obtain ⟨ar, cr, hcr, hrd⟩ := hr k hlt
      rw [HD.out.2 k hlt] at hcr hrd
      have hlt' : (k : Int) < (n : Int) := by omega
      by_cases hkr : k = i
      · have z1 : ((k : Int) == (i : Int)) = true := beq_iff_eq.2 (by omega)
        have HK := Lib.hid hkr
        clear hkr
        go_wp2
        go_roundw
        case rel => exact ⟨k + 1, q, cq, by omega, by go_num, by rw [woN, if_pos HK.out], by rw [woN, if_pos HK.out]; exact ho, hb⟩
        case measure => simp [intOf]; omega
      · have z1 : ((k : Int) == (i : Int)) = false := beq_eq_false_iff_ne.2 (by omega)
        have HK := Lib.hid hkr
        clear hkr
        obtain ⟨p, o, rfl, hp, _⟩ := hrd.at hj
        have hle := hrd.le
        have t1 := hrd.take (n := j) (by omega)
        have t2 := hrd.drop (n := j + 1) (by omega)
        have b1 : (j : Int) ≤ (cr : Int) := by omega
        have b2 : (j : Int) + 1 ≤ (c : Int) := by omega
        have b3 : (j : Int) + 1 ≤ (cr : Int) := by omega
        have hsz := hb.size
        have hwl := woN_len M i j k
        have hwl2 : (woN M i j k).length ≤ k := by rw [hwl]; split <;> omega
        clear hwl hr
        have tok1 : True := trivial
        have tok2 : True := trivial
        have e9 : ((j : Int) + 1).toNat = j + 1 := by omega
        by_cases hcc : cr = j + 1
        · subst hcc
          rw [if_pos rfl, show c - (j + 1) = 0 by omega, Nat.sub_self] at t2
          go_wp2_with (first | (at_builtin; have _t := tok1; refine wpList_append_ints HM.out.int rfl (.const (.slice none 0 0)) (.tmp 23) rfl rfl rfl (OwI.nil wr wr.heap.size _) t1 (by omega) (Nat.le_refl _) ?_; intro a3 cap3 w3 ho3 hg3; have hb3 := below_of_grown hg3; clear tok1; rw [Nat.zero_add, List.nil_append] at ho3) | (at_builtin; have _t := tok2; refine wpList_append_ints HM.out.int rfl (.tmp 26) (.tmp 30) rfl rfl rfl ho3 (t2.below hb3) (by omega) hb3.size ?_; intro a4 cap4 w4 ho4 hg4; have hb4 := below_grown hb3 ho3 hb3.size hg4; clear tok2) | (at_builtin; refine wpList_push_row HM.out rfl (.tmp 25) (.tmp 32) rfl rfl rfl ho (hb4.alloc hb4.size _) (ho4.below ((Below.refl _ _).alloc (Nat.le_refl _) _)) (by simp) (by omega) hsz ?_; intro a5 cap5 w5 ho5 hb5))
          have hL : Hid (woN M i j (k + 1) = woN M i j k ++ [(rowOf M k).take j ++ (rowOf M k).drop (j + 1)]) := by
            unfold Hid
            rw [woN, if_neg HK.out, cutN_parts _ (by rw [HD.out.2 k hlt]; exact hj)]
          have hL2 : (woN M i j (k + 1)).length = (woN M i j k).length + 1 := by rw [hL.out]; simp
          go_roundw
          case rel => exact ⟨k + 1, a5, cap5, by omega, by go_num, by rw [hL2], by rw [hL2, hL.out]; exact ho5, ((hb.trans (hb4.mono hsz)).alloc (Nat.le_trans hsz hb4.size) _).trans hb5⟩
          case measure => simp [intOf]; omega
        · rw [if_neg hcc] at t2
          simp only [Option.map_some, Addr.add] at t2
          go_wp2_with (first | (at_builtin; have _t := tok1; refine wpList_append_ints HM.out.int rfl (.const (.slice none 0 0)) (.tmp 23) rfl rfl rfl (OwI.nil wr wr.heap.size _) t1 (by omega) (Nat.le_refl _) ?_; intro a3 cap3 w3 ho3 hg3; have hb3 := below_of_grown hg3; clear tok1; rw [Nat.zero_add, List.nil_append] at ho3) | (at_builtin; have _t := tok2; refine wpList_append_ints HM.out.int rfl (.tmp 26) (.tmp 30) rfl rfl rfl ho3 (t2.below hb3) (by omega) hb3.size ?_; intro a4 cap4 w4 ho4 hg4; have hb4 := below_grown hb3 ho3 hb3.size hg4; clear tok2) | (at_builtin; refine wpList_push_row HM.out rfl (.tmp 25) (.tmp 32) rfl rfl rfl ho (hb4.alloc hb4.size _) (ho4.below ((Below.refl _ _).alloc (Nat.le_refl _) _)) (by simp) (by omega) hsz ?_; intro a5 cap5 w5 ho5 hb5))
          have hL : Hid (woN M i j (k + 1) = woN M i j k ++ [(rowOf M k).take j ++ (rowOf M k).drop (j + 1)]) := by
            unfold Hid
            rw [woN, if_neg HK.out, cutN_parts _ (by rw [HD.out.2 k hlt]; exact hj)]
          have hL2 : (woN M i j (k + 1)).length = (woN M i j k).length + 1 := by rw [hL.out]; simp
          go_roundw
          case rel => exact ⟨k + 1, a5, cap5, by omega, by go_num, by rw [hL2], by rw [hL2, hL.out]; exact ho5, ((hb.trans (hb4.mono hsz)).alloc (Nat.le_trans hsz hb4.size) _).trans hb5⟩
          case measure => simp [intOf]; omega
    · obtain rfl : k = n := by omega
      go_wp2
      go_ret
      exact ⟨q, cq, rfl, ho, hb⟩
end Go.Proofs.YtkielldinghmbaaDoor
namespace Go.Proofs.YtkielldinghmbaaDoor
open Go.RowKit Go.Rk

/-- What is wrong, as a number. -/
def numV (o : Option Int) : Value := .int .i64 (o.getD 0)
theorem allB_any (lo hi : Int) (l : List Int) : allB lo hi l = !anyB lo hi l := by
  unfold allB anyB
  rw [List.all_eq_not_any_not]
  congr 2
  funext x
  unfold inB outB
  by_cases h1 : lo ≤ x <;> by_cases h2 : x ≤ hi <;> simp [h1, h2] <;> omega

theorem rowsErr_ne0 {lo hi : Int} {m : Nat} {M : List (List Int)} (h : rowsErr lo hi m M = some 0) : False := by
  have key : ∀ (M : List (List Int)) (r : Option Int), r ≠ some 0 → M.foldl (fun r l => match r with | none => rowErr1 lo hi m l | some c => some c) r ≠ some 0 := by
    intro M
    induction M with
    | nil => intro r hr; exact hr
    | cons l M ih =>
      intro r hr
      rw [List.foldl_cons]
      refine ih _ ?_
      cases r with
      | none =>
        show rowErr1 lo hi m l ≠ some 0
        unfold rowErr1
        split
        · simp
        · split <;> simp
      | some c => exact hr
  exact key M none (by simp) h

theorem groundsR_ne0 {most lo hi : Int} {M : List (List Int)} (hg : groundsR most lo hi M = some 0) : False := by
  unfold groundsR at hg
  split at hg
  · injection hg; omega
  · split at hg
    · injection hg; omega
    · exact rowsErr_ne0 hg
theorem squareR_ne0 {most lo hi : Int} {M : List (List Int)} (h : squareR most lo hi M = some 0) : False := by
  unfold squareR at h
  split at h
  · split at h
    · cases h
    · injection h; omega
  · exact groundsR_ne0 h

set_option maxHeartbeats 2000000 in
theorem R_Matrix_any {a : Option Addr} {n cap : Nat} {M : List (List Int)} (most lo hi : Int) {w : World} (h : RdM w a n cap M) :
    Calls Tryd.prog 61 #[.slice a n cap, .int .i64 most, .int .i64 lo, .int .i64 hi] w fun e w' => e = .returned (numV (groundsR most lo hi M)) ∧ Below w.heap.size w w' := by
  have E1 := Lib.hid h.len_eq
  have hm := h.len_max
  by_cases h0 : n = 0
  · subst h0
    go_enter Tryd.func61, Tryd.ntmps61
    go_wp2
    go_ret
    refine ⟨?_, Below.refl _ _⟩
    unfold groundsR
    rw [if_pos (.inl E1.out)]
    rfl
  obtain ⟨b, off, rfl, hbl, hr⟩ := h.at (k := 0) (by omega)
  obtain ⟨ar0, cr0, hc0, hrd0⟩ := hr 0 (by omega)
  rw [Nat.add_zero] at hc0
  have hm0 := hrd0.len_max
  have z1 : ((n : Int) == 0) = false := by simp; omega
  rcases hq : groundsPre most M with _ | c
  · obtain ⟨p1, p2, p3⟩ := groundsPre_none hq
    have HR : Hid (groundsR most lo hi M = rowsErr lo hi (rowOf M 0).length M) := by
      unfold Hid groundsR
      rw [if_neg (by rw [E1.out]; omega), if_neg (by omega)]
    have p2' : (n : Int) ≤ most := by rw [← E1.out]; exact p2
    have z2 : (((rowOf M 0).length : Int) == 0) = false := beq_eq_false_iff_ne.2 (by omega)
    clear hq p2
    go_enter Tryd.func61, Tryd.ntmps61
    go_wp2
    go_loopw [9] (fun i wr => ∃ k q : Nat, k ≤ n ∧ i = .int .i64 k ∧ Hid (rowsErr lo hi (rowOf M 0).length (M.take k) = none) ∧ Hid (wr = w.drewN q)) (fun i _ => n - (intOf i).toNat)
    case atStart => exact ⟨0, 0, Nat.zero_le _, rfl, rfl, (World.drewN_zero _).symm⟩
    case round =>
      obtain ⟨k, q, hk, rfl, hno, HQ⟩ := hrel
      have kb : Below w.heap.size w wr := by rw [HQ.out]; exact below_drewN (Below.refl _ _) q
      by_cases hlt : k < n
      · obtain ⟨ar, cr, hc, hrd⟩ := hr k hlt
        have hmk := hrd.len_max
        have hl : k < M.length := by rw [E1.out]; exact hlt
        have hc := kb.keep hbl hc
        have hrd := hrd.below kb
        have hc0 := kb.keep hbl hc0
        have b1 : (k : Int) < (n : Int) := by omega
        have b2 : (0 : Int) < (n : Int) := by omega
        have b3 : (1 : Int) ≤ (n : Int) := by omega
        by_cases hw : (rowOf M k).length = (rowOf M 0).length
        · have z3 : (((rowOf M k).length : Int) != ((rowOf M 0).length : Int)) = false := bne_eq_false_iff_eq.2 (by omega)
          have Hw := Lib.hid hw
          have hcq := hc
          clear hw
          go_wp2
          go_quiet (fail)
          have kb2 : Below wr.heap.size wr (wr.drewN nq) := below_drewN (Below.refl _ _) nq
          have hc := kb2.keep (World.block_lt_of_cell? wr _ hcq) hcq
          have hrd := hrd.below kb2
          have HQ2 : Hid (wr.drewN nq = w.drewN (q + nq)) := by unfold Hid; rw [HQ.out, World.drewN_drewN]
          clear hcq hc0 kb kb2 HQ z3
          generalize wr.drewN nq = w2 at *
          rcases hany : anyB lo hi (rowOf M k)
          · have Ha := Lib.hid hany
            have Hb : Hid (allB lo hi (rowOf M k) = true) := by unfold Hid; rw [allB_any, hany]; rfl
            clear hany
            go_wp2_with (go_at_call 50; refine (R_All_any _ _ hrd).mono ?_; rintro e w' ⟨rfl, rfl⟩; rw [Hb.out])
            go_roundw
            case rel => exact ⟨k + 1, _, by omega, by go_num, by unfold Hid; rw [rowsErr_take hl, hno.out, rowErr1, Ha.out, if_neg (by rw [Hw.out]; simp)]; rfl, HQ2⟩
            case measure => simp [intOf]; omega
          · have Ha := Lib.hid hany
            have Hb : Hid (allB lo hi (rowOf M k) = false) := by unfold Hid; rw [allB_any, hany]; rfl
            clear hany
            go_wp2_with (go_at_call 50; refine (R_All_any _ _ hrd).mono ?_; rintro e w' ⟨rfl, rfl⟩; rw [Hb.out])
            go_ret
            refine ⟨?_, by rw [HQ2.out]; exact below_drewN (Below.refl _ _) _⟩
            rw [HR.out, rowsErr_at hl hno.out (c := 1) (by rw [rowErr1, Ha.out, if_neg (by rw [Hw.out]; simp)]; rfl)]
            rfl
        · have z3 : (((rowOf M k).length : Int) != ((rowOf M 0).length : Int)) = true := bne_iff_ne.2 (by omega)
          have Hw := Lib.hid hw
          clear hw
          go_wp2
          go_quiet (fail)
          go_wp2
          go_ret
          refine ⟨?_, below_drewN kb nq⟩
          rw [HR.out, rowsErr_at hl hno.out (c := 3) (by rw [rowErr1, if_pos Hw.out])]
          rfl
      · go_wp2
        go_ret
        refine ⟨?_, kb⟩
        have hfin := hno.out
        rw [List.take_of_length_le (by rw [E1.out]; omega)] at hfin
        rw [HR.out, hfin]
        rfl
  · have HR : Hid (groundsR most lo hi M = some c) := groundsPre_some hq
    have hq2 := groundsPre_cases hq (by rw [E1.out]; omega)
    have p5 : (n : Int) = M.length := by rw [E1.out]
    rcases hq2 with ⟨rfl, hz⟩ | ⟨rfl, hz1, hz2⟩ | ⟨rfl, hz1, hz2, hz3⟩
    · have z2 : (((rowOf M 0).length : Int) == 0) = true := beq_iff_eq.2 (by omega)
      have HP := Lib.hid p5
      clear hq hz p5
      go_enter Tryd.func61, Tryd.ntmps61
      go_wp2
      go_ret
      exact ⟨by rw [HR.out]; rfl, Below.refl _ _⟩
    · have z2 : (((rowOf M 0).length : Int) == 0) = false := beq_eq_false_iff_ne.2 (by omega)
      have z4 : most < (n : Int) := by omega
      have HP := Lib.hid p5
      clear hq p5 hz1 hz2
      go_enter Tryd.func61, Tryd.ntmps61
      go_wp2
      go_ret
      exact ⟨by rw [HR.out]; rfl, Below.refl _ _⟩
    · have z2 : (((rowOf M 0).length : Int) == 0) = false := beq_eq_false_iff_ne.2 (by omega)
      have z4 : (n : Int) ≤ most := by omega
      have HP := Lib.hid p5
      clear hq p5 hz1 hz2
      go_enter Tryd.func61, Tryd.ntmps61
      go_wp2
      go_ret
      exact ⟨by rw [HR.out]; rfl, Below.refl _ _⟩

theorem R_Square_any {a : Option Addr} {n cap : Nat} {M : List (List Int)} (most lo hi : Int) {w : World} (h : RdM w a n cap M) :
    Calls Tryd.prog 34 #[.slice a n cap, .int .i64 most, .int .i64 lo, .int .i64 hi] w fun e w' => e = .returned (numV (squareR most lo hi M)) ∧ Below w.heap.size w w' := by
  have C := R_Matrix_any most lo hi h
  have e1 := h.len_eq
  have hm := h.len_max
  rcases hg : groundsR most lo hi M with _ | x
  · rw [hg] at C
    have C1 := Lib.hid C
    obtain ⟨l1, l2, l3, l4, l5⟩ := groundsR_none hg
    rw [e1] at l1
    obtain ⟨b, off, rfl, hbl, hr⟩ := h.at (k := 0) l1
    obtain ⟨ar0, cr0, hc0, hrd0⟩ := hr 0 l1
    have hm0 := hrd0.len_max
    rw [Nat.add_zero] at hc0
    have b2 : (0 : Int) < (n : Int) := by omega
    have b3 : (1 : Int) ≤ (n : Int) := by omega
    have HG := Lib.hid hg
    have E1 := Lib.hid e1
    have z0 : ((0 : Int) == 0) = true := rfl
    by_cases hs : n = (rowOf M 0).length
    · have z1 : ((n : Int) != ((rowOf M 0).length : Int)) = false := bne_eq_false_iff_eq.2 (by omega)
      have HS := Lib.hid hs
      clear hs hg C e1 l2 l3 l4 l5 hr
      go_enter Tryd.func34, Tryd.ntmps34
      go_wp2_with (go_at_call 61; (with_reducible refine C1.out.mono ?_); rintro e w2 ⟨rfl, hb⟩; have hc0 := hb.keep hbl hc0; simp only [numV, Option.getD_none])
      go_ret
      refine ⟨?_, hb⟩
      unfold squareR
      rw [if_pos HG.out, if_pos (by rw [E1.out, ← HS.out])]
      rfl
    · have z1 : ((n : Int) != ((rowOf M 0).length : Int)) = true := bne_iff_ne.2 (by omega)
      have HS := Lib.hid hs
      clear hs hg C e1 l2 l3 l4 l5 hr
      go_enter Tryd.func34, Tryd.ntmps34
      go_wp2_with (go_at_call 61; (with_reducible refine C1.out.mono ?_); rintro e w2 ⟨rfl, hb⟩; have hc0 := hb.keep hbl hc0; simp only [numV, Option.getD_none])
      go_ret
      refine ⟨?_, hb⟩
      unfold squareR
      rw [if_pos HG.out, if_neg (by rw [E1.out]; exact HS.out)]
      rfl
  · rw [hg] at C
    have C1 := Lib.hid C
    have HG := Lib.hid hg
    have hx : x ≠ 0 := fun e => by subst e; exact groundsR_ne0 hg
    have z0 : (x == 0) = false := beq_eq_false_iff_ne.2 hx
    clear hg C hx
    go_enter Tryd.func34, Tryd.ntmps34
    go_wp2_with (go_at_call 61; (with_reducible refine C1.out.mono ?_); rintro e w2 ⟨rfl, hb⟩; simp only [numV, Option.getD_some])
    go_ret
    refine ⟨?_, hb⟩
    unfold squareR
    rw [if_neg (by rw [HG.out]; simp), HG.out]
    rfl

set_option maxHeartbeats 2000000 in
theorem R_Without_any {a : Option Addr} {n cap r c : Nat} {M : List (List Int)} {w : World} (h : RdM w a n cap M) (hn : n ≤ 1000) (hl : ∀ k, k < n → (rowOf M k).length ≤ 1000) :
    Calls Tryd.prog 44 #[.slice a n cap, .int .i64 r, .int .i64 c] w fun e w' => ∃ a' cap', e = .returned (.slice a' (woN M r c n).length cap') ∧ OwM w' w.heap.size 32 3 a' (woN M r c n).length cap' (woN M r c n) ∧ Below w.heap.size w w' := by
  have HM := Lib.hid matTy
  go_enter Tryd.func44, Tryd.ntmps44
  go_wp2
  go_loopw [7, 8] (fun v i wr => ∃ (k : Nat) (q : Option Addr) (cq : Nat), k ≤ n ∧ i = .int .i64 k ∧ v = .slice q (woN M r c k).length cq ∧ OwM wr w.heap.size 32 3 q (woN M r c k).length cq (woN M r c k) ∧ Below w.heap.size w wr) (fun _ i _ => n - (intOf i).toNat)
  case atStart => exact ⟨0, none, 0, Nat.zero_le _, rfl, rfl, OwM.nil _ _ _ _, Below.refl _ _⟩
  case round =>
    obtain ⟨k, q, cq, hk, rfl, rfl, ho, hb⟩ := hrel
    obtain ⟨wo, rfl⟩ : ∃ wo, wo = wr := ⟨_, rfl⟩
    by_cases hlt : k < n
    · by_cases hkr : k = r
      · have z1 : ((k : Int) == (r : Int)) = true := beq_iff_eq.2 (by omega)
        have HK := Lib.hid hkr
        clear hkr
        go_wp2
        go_roundw
        case rel => exact ⟨k + 1, q, cq, by omega, by go_num, by rw [woN, if_pos HK.out], by rw [woN, if_pos HK.out]; exact ho, hb⟩
        case measure => simp [intOf]; omega
      · have z1 : ((k : Int) == (r : Int)) = false := beq_eq_false_iff_ne.2 (by omega)
        have HK := Lib.hid hkr
        clear hkr
        obtain ⟨b, off, rfl, hbl, hr⟩ := h.at hlt
        obtain ⟨ar, cr, hc0, hrd⟩ := hr k hlt
        have b1 : (k : Int) < (n : Int) := by omega
        have hlk := hl k hlt
        obtain ⟨len, hlen⟩ : ∃ len, (rowOf M k).length = len := ⟨_, rfl⟩
        rw [hlen] at hc0 hrd hlk
        have HL := Lib.hid hlen
        clear hr hlen
        go_wp2
        go_loopw [9, 10] (fun v j wt => ∃ (s : Nat) (p : Option Addr) (cp : Nat), s ≤ len ∧ j = .int .i64 s ∧ v = .slice p (cutN (rowOf M k) c s).length cp ∧ OwI wt wo.heap.size 3 p (cutN (rowOf M k) c s).length cp (cutN (rowOf M k) c s) ∧ Below wo.heap.size wo wt) (fun _ j _ => len - (intOf j).toNat)
        case atStart => exact ⟨0, none, 0, Nat.zero_le _, rfl, rfl, OwI.nil _ _ _, Below.refl _ _⟩
        case round =>
          obtain ⟨s, p, cp, hs, rfl, rfl, hp, hbt⟩ := hrel
          have kt := below_tr hb hbt
          have hc0 := kt.keep hbl hc0
          by_cases hsl : s < len
          · obtain ⟨p2, o2, hz, _, hcs⟩ := (hrd.below kt).at hsl
            subst hz
            have y1 := hcs s hsl
            have b2 : (s : Int) < (len : Int) := by omega
            have hle := cutN_len (rowOf M k) c s
            have hle2 : (cutN (rowOf M k) c s).length ≤ s := by rw [hle]; split <;> omega
            clear hle hcs
            by_cases hsc : s = c
            · have z2 : ((s : Int) != (c : Int)) = false := bne_eq_false_iff_eq.2 (by omega)
              have HS := Lib.hid hsc
              clear hsc
              go_wp2
              go_roundw
              case rel => exact ⟨s + 1, p, cp, by omega, by go_num, by rw [cutN, if_pos HS.out], by rw [cutN, if_pos HS.out]; exact hp, hbt⟩
              case measure => simp [intOf]; omega
            · have z2 : ((s : Int) != (c : Int)) = true := bne_iff_ne.2 (by omega)
              have HS := Lib.hid hsc
              have hsz := hbt.size
              clear hsc
              go_wp2_with (at_builtin; refine wpList_push_int HM.out.int rfl (.tmp 32) (.tmp 40) rfl rfl rfl (hp.alloc _) (z := ix (rowOf M k) s) (by simp) (by decide) (by decide) (by omega) (by simp; omega) ?_; intro a6 cap6 w6 ho6 hg6)
              have hle6 : (cutN (rowOf M k) c (s + 1)).length = (cutN (rowOf M k) c s).length + 1 := by rw [cutN, if_neg HS.out]; simp
              have hb6 := (hbt.alloc hbt.size (.cells #[.int .i64 (ix (rowOf M k) s)] 3)).grown hg6 (by simp; omega) (fun r e => (hp.own.lt r e).1)
              go_roundw
              case rel => exact ⟨s + 1, a6, cap6, by omega, by go_num, by rw [hle6], by rw [hle6, cutN, if_neg HS.out]; exact ho6, hb6⟩
              case measure => simp [intOf]; omega
          · obtain rfl : s = len := by omega
            have hsz := hb.size
            have hsz2 := hbt.size
            have hwl := woN_len M r c k
            have hwl2 : (woN M r c k).length ≤ k := by rw [hwl]; split <;> omega
            clear hwl
            go_wp2_with (at_builtin; refine wpList_push_row HM.out rfl (.tmp 42) (.tmp 44) rfl rfl rfl ho (hbt.alloc hsz2 _) (hp.below ((Below.refl _ _).alloc (Nat.le_refl _) _)) (by simp) (by omega) hsz ?_; intro a4 cap4 w4 ho4 hb4)
            have hle4 : (woN M r c (k + 1)).length = (woN M r c k).length + 1 := by rw [woN, if_neg HK.out]; simp
            have hb5 := (kt.alloc kt.size (.cells #[.slice p (cutN (rowOf M k) c s).length cp] 32)).trans hb4
            go_roundw
            case rel => exact ⟨k + 1, a4, cap4, by omega, by go_num, by rw [hle4], by rw [hle4, woN, if_neg HK.out, HL.out]; exact ho4, hb5⟩
            case measure => simp [intOf]; omega
    · obtain rfl : k = n := by omega
      go_wp2
      go_ret
      exact ⟨q, cq, rfl, ho, hb⟩

theorem R_Without_sq {a : Option Addr} {n cap r c : Nat} {M : List (List Int)} {w : World} (h : RdM w a (n + 1) cap M) (hn : n ≤ 100) (hd : Dim (n + 1) M) (hr : r < n + 1) (hc : c < n + 1) :
    Calls Tryd.prog 44 #[.slice a (n + 1 : Nat) cap, .int .i64 r, .int .i64 c] w fun e w' => ∃ a' cap' W, e = .returned (.slice a' n cap') ∧ OwM w' w.heap.size 32 3 a' n cap' W ∧ Is n W (minor (mx M) r c) ∧ Below w.heap.size w w' := by
  refine (R_Without_any h (by omega) fun k hk => by rw [hd.2 k hk]; omega).mono ?_
  rintro e w' ⟨a', cap', rfl, ho, hb⟩
  have hl : (woN M r c (n + 1)).length = n := by rw [woN_len, if_pos hr]; omega
  rw [hl] at ho
  exact ⟨a', cap', _, by rw [hl], ho, woN_is hd hr hc, hb⟩

set_option maxHeartbeats 4000000 in
set_option maxRecDepth 100000 in
theorem R_DetMod_big : ∀ (n : Nat) {a : Option Addr} {cap : Nat} {M : List (List Int)} {w : World} (_ : RdM w a n cap M) (_ : Dim n M) (_ : Ent 0 9972 n M) (_ : n ≤ 100),
    Calls Tryd.prog 38 #[.slice a n cap] w fun e w' => e = .returned (.int .i64 (det n (mx M) % 9973)) ∧ Below w.heap.size w w' := by
  intro n
  induction n with
  | zero =>
    intro a cap M w h _ _ _
    go_enter Tryd.func38, Tryd.ntmps38
    go_wp2
    go_ret
    exact ⟨rfl, Below.refl _ _⟩
  | succ n ih =>
    intro a cap M w h hd he h5
    obtain ⟨N, hN⟩ : ∃ N, n + 1 = N := ⟨_, rfl⟩
    rw [hN] at h hd he h5 ⊢
    have hN1 : 1 ≤ N := by omega
    have hN2 : 0 < N := by omega
    have HD := Lib.hid hd
    have HE := Lib.hid he
    have IH : Hid (∀ {a : Option Addr} {cap : Nat} {M : List (List Int)} {w : World} (_ : RdM w a n cap M) (_ : Dim n M) (_ : Ent 0 9972 n M) (_ : n ≤ 100), Calls Tryd.prog 38 #[.slice a n cap] w fun e w' => e = .returned (.int .i64 (det n (mx M) % 9973)) ∧ Below w.heap.size w w') := @ih
    clear ih hd he
    obtain ⟨ba, oa, rfl, hba, hra⟩ := h.at (k := 0) (by omega)
    obtain ⟨ai, ci, hc0, hai⟩ := hra 0 (by omega)
    rw [HD.out.2 0 (by omega)] at hc0 hai
    obtain ⟨pa, qa, rfl, hpa, hca⟩ := hai.at (k := 0) (by omega)
    rw [Nat.add_zero] at hc0
    have z0 : ((N : Int) == 0) = false := beq_eq_false_iff_ne.2 (by omega)
    clear hra hai
    go_enter Tryd.func38, Tryd.ntmps38
    go_wp2
    go_loopw [3, 4, 5] (fun vs vg vj wr => ∃ (j : Nat) (S g : Int), j ≤ N ∧ vj = .int .i64 j ∧ vs = .int .i64 S ∧ vg = .int .i64 g ∧ Hid (g = sg j) ∧ (g = 1 ∨ g = -1) ∧ 0 ≤ S ∧ S ≤ 9972 ∧ Hid (Eqm S (sumTo (fun t => sg t * en M 0 t * det n (minor (mx M) 0 t)) j)) ∧ Below w.heap.size w wr) (fun _ _ vj _ => N - (intOf vj).toNat)
    case atStart => exact ⟨0, 0, 1, Nat.zero_le _, rfl, rfl, rfl, rfl, .inl rfl, by omega, by omega, Eqm.refl _, Below.refl _ _⟩
    case round =>
      obtain ⟨j, S, g, hj, rfl, rfl, rfl, HG, hg, hS1, hS2, HS, hb⟩ := hrel
      have hgn : Hid (-g = sg (j + 1)) := by unfold Hid; rw [sg_succ, HG.out]
      have hgn1 : -g = 1 ∨ -g = -1 := by omega
      have ug : IntKind.i64.wrap (-g) = -g := Go.IntWalk.i64_in _ (by omega)
      by_cases hlt : j < N
      · have hc0 := hb.keep hba hc0
        have y1 := hb.keep hpa (hca j hlt)
        change World.cell? _ _ = some (.int .i64 (en M 0 j)) at y1
        have b1 : (j : Int) < (N : Int) := by omega
        have b2 : (0 : Int) < (N : Int) := by omega
        have b3 : (1 : Int) ≤ (N : Int) := by omega
        have hv := HE.out 0 j (by omega) hlt
        by_cases h0 : en M 0 j = 0
        · have z1 : (en M 0 j != 0) = false := bne_eq_false_iff_eq.2 h0
          have H0 := Lib.hid h0
          clear h0
          go_wp2
          go_roundw
          case rel => exact ⟨j + 1, S, -g, by omega, by go_num, rfl, rfl, hgn, hgn1, hS1, hS2, by unfold Hid; rw [sumTo, H0.out, Int.mul_zero, Int.zero_mul, Int.add_zero]; exact HS.out, hb⟩
          case measure => simp [intOf]; omega
        · have z1 : (en M 0 j != 0) = true := bne_iff_ne.2 h0
          clear h0
          obtain ⟨V, hV⟩ : ∃ V, V = en M 0 j := ⟨_, rfl⟩
          rw [← hV] at y1 z1 hv
          obtain ⟨Dt, hDt⟩ : ∃ Dt, Dt = det n (minor (mx M) 0 j) % 9973 := ⟨_, rfl⟩
          have hD : 0 ≤ Dt ∧ Dt ≤ 9972 := by omega
          obtain ⟨T1, hT1⟩ : ∃ T1, T1 = g * V := ⟨_, rfl⟩
          have hT1b : -9972 ≤ T1 ∧ T1 ≤ 9972 := by rcases hg with e | e <;> rw [hT1, e] <;> omega
          have p1 : -(9972 * 9972) ≤ T1 * Dt ∧ T1 * Dt ≤ 9972 * 9972 := by
            have q1 : (T1 + 9972) * Dt ≤ 19944 * 9972 := Int.mul_le_mul (by omega) hD.2 hD.1 (by omega)
            have q2 : 0 ≤ (T1 + 9972) * Dt := Int.mul_nonneg (by omega) hD.1
            have q3 : 0 ≤ (9972 - T1) * Dt := Int.mul_nonneg (by omega) hD.1
            rw [Int.add_mul] at q2
            rw [Int.sub_mul] at q3
            omega
          obtain ⟨T2, hT2⟩ : ∃ T2, T2 = T1 * Dt := ⟨_, rfl⟩
          rw [← hT2] at p1
          have u1 : IntKind.i64.wrap (g * V) = T1 := by rw [hT1]; exact Go.IntWalk.i64_in _ (by rw [← hT1]; omega)
          have u2 : IntKind.i64.wrap (T1 * Dt) = T2 := by rw [hT2]; exact Go.IntWalk.i64_in _ (by rw [← hT2]; omega)
          have u3 : IntKind.i64.wrap (S + T2) = S + T2 := Go.IntWalk.i64_in _ (by omega)
          have HT1 := Lib.hid hT1
          have HT2 := Lib.hid hT2
          have HDt := Lib.hid hDt
          have HV := Lib.hid hV
          have C1 : Hid (Calls Tryd.prog 44 #[.slice (some ⟨ba, oa, none⟩) N cap, .int .i64 0, .int .i64 j] wr.drew fun e w' => ∃ a' cap' W, e = .returned (.slice a' n cap') ∧ OwM w' wr.drew.heap.size 32 3 a' n cap' W ∧ Is n W (minor (mx M) 0 j) ∧ Below wr.drew.heap.size wr.drew w') :=
            by subst hN; exact R_Without_sq (r := 0) (h.below hb.drew) (by omega) HD.out (by omega) hlt
          have hbl : ba < wr.heap.size ∧ pa < wr.heap.size := by have := hb.size; omega
          have hn5 : n ≤ 100 := by omega
          clear hT1 hT2 hDt hV
          go_wp2
          go_region_held3 (fun w' => w'.cell? ⟨ba, oa, none⟩ = some (.slice (some ⟨pa, qa, none⟩) N ci) ∧ w'.cell? ⟨pa, qa + j, none⟩ = some (.int .i64 V))
            (first | go_keep | (go_split_ands; refine ⟨?_, ?_⟩ <;> first | assumption | (refine hbk.keep ?_ ?_ <;> first | assumption | omega | (simp; omega))))
            (first
              | (go_at_call 44; (with_reducible refine C1.out.mono ?_); rintro e w3 ⟨a3, cap3, W, rfl, ho3, hi3, hbk⟩; have kk := hb.drew.trans (hbk.mono hb.drew.size); have kl : wr.heap.size ≤ w3.heap.size := hbk.size)
              | (go_at_call 38; refine (IH.out ho3.rd hi3.1 (fun r s hr hs => by rw [hi3.2 r s hr hs]; exact HE.out _ _ (by rw [← hN]; exact skip_lt hr) (by rw [← hN]; exact skip_lt hs)) hn5).mono ?_; rw [show det n (mx W) = det n (minor (mx M) 0 j) from det_congr fun r s hr hs => hi3.2 r s hr hs, ← HDt.out]; rintro e w4 ⟨rfl, hbk⟩; have kk := kk.trans (hbk.mono kk.size))
              | (go_at_call 47; refine (R_Mod_any _ _ (by omega) (by omega)).mono ?_; rintro e w' ⟨rfl, rfl⟩))
          clear u1 u2 u3
          have e2 : Eqm ((S + T2) % 9973) (sumTo (fun t => sg t * en M 0 t * det n (minor (mx M) 0 t)) (j + 1)) := by
            refine (Eqm.mod _).trans ?_
            rw [sumTo]
            refine Eqm.add HS.out ?_
            rw [HT2.out, HT1.out, HG.out, HV.out, HDt.out]
            exact Eqm.mul (Eqm.refl _) (Eqm.mod _)
          have e3 : 0 ≤ (S + T2) % 9973 ∧ (S + T2) % 9973 ≤ 9972 := by omega
          go_wp2
          go_roundw
          case rel => exact ⟨j + 1, _, -g, by omega, by go_num, rfl, rfl, hgn, hgn1, e3.1, e3.2, e2, kk⟩
          case measure => simp [intOf]; omega
      · obtain rfl : j = N := by omega
        go_wp2
        go_ret
        refine ⟨?_, hb⟩
        subst hN
        have e1 := HS.out
        unfold Eqm at e1
        rw [show det (n + 1) (mx M) = sumTo (fun t => sg t * en M 0 t * det n (minor (mx M) 0 t)) (n + 1) from rfl, ← e1]
        rw [Int.emod_eq_of_lt hS1 (by omega)]
        rfl
theorem R_DetMod_any (n : Nat) {a : Option Addr} {cap : Nat} {M : List (List Int)} {w : World} (h : RdM w a n cap M) (d : Dim n M) (e : Ent 0 9972 n M) (h5 : n ≤ 5) :
    Calls Tryd.prog 38 #[.slice a n cap] w fun e w' => e = .returned (.int .i64 (det n (mx M) % 9973)) ∧ Below w.heap.size w w' := R_DetMod_big n h d e (by omega)
end Go.Proofs.YtkielldinghmbaaDoor
namespace Go.Proofs.YtkielldinghmbaaDoor
open Go.RowKit Go.Rk

/-- The number of an error that is none, or a number. -/
theorem Told_any {x : Option Int} {w : World} (hg : ErrT w) : Calls Tryd.prog 62 #[errV x] w fun e w' => e = .returned (.int .i64 (x.getD 0)) ∧ Below w.heap.size w w' := by
  cases x with
  | none =>
    go_enter Tryd.func62, Tryd.ntmps62
    simp only [errV]
    go_wp2
    go_ret
    exact ⟨rfl, Below.refl _ _⟩
  | some c =>
    have hb := (Below.refl w.heap.size w).alloc (Nat.le_refl _) (.cells #[.int .i64 0] 70)
    have C := Lib.hid (as_hit c ⟨w.heap.size, 0, none⟩ (.int .i64 0) _ (hg.below hb) (by simp) (by simp))
    go_enter Tryd.func62, Tryd.ntmps62
    simp only [errV]
    go_wp2_with (first | (go_at_call 84; (with_reducible refine C.out.mono ?_); rintro e w' ⟨rfl, w2, hb2, hc2, rfl⟩; have hc3 := World.cell?_setCell_same w2 ⟨w.heap.size, 0, none⟩ (.int .i64 c) hc2))
    go_ret
    exact ⟨rfl, (hb.trans (hb2.mono hb.size)).setCell (p := ⟨w.heap.size, 0, none⟩) (Nat.le_refl _) _⟩

theorem E_Error_any {x : Option Int} {e : Int} {w : World} (hg : ErrT w) : Calls Tryd.prog 17 #[errV x, .int .i64 e] w fun ev w' => ev = .returned (.bool (x.getD 0 == e)) ∧ Below w.heap.size w w' := by
  have C := Lib.hid (Told_any (x := x) hg)
  go_enter Tryd.func17, Tryd.ntmps17
  go_wp2_with (first | (go_at_call 62; (with_reducible refine C.out.mono ?_); rintro e w' ⟨rfl, hb⟩))
  go_ret
  exact ⟨rfl, hb⟩
theorem rowErr1_nz {lo hi : Int} {c : Nat} {e : Int} {l : List Int} (h : rowErr1 lo hi c l = some e) : e ≠ 0 := by
  unfold rowErr1 at h
  split at h
  · cases h; decide
  · split at h
    · cases h; decide
    · cases h
theorem rowsErr_nz {lo hi : Int} {c : Nat} {e : Int} {M : List (List Int)} (h : rowsErr lo hi c M = some e) : e ≠ 0 := by
  have g : ∀ (M : List (List Int)) (o : Option Int), (∀ x, o = some x → x ≠ 0) → ∀ x, M.foldl (fun r l => match r with | none => rowErr1 lo hi c l | some c => some c) o = some x → x ≠ 0 := by
    intro M
    induction M with
    | nil => exact fun o ho x hx => ho x hx
    | cons r M ih =>
      intro o ho x hx
      refine ih _ (fun y hy => ?_) x hx
      cases o with
      | none => exact rowErr1_nz hy
      | some z => exact ho y hy
  exact g M none (fun x hx => by cases hx) e h
theorem groundsR_nz {most lo hi : Int} {M : List (List Int)} {e : Int} (h : groundsR most lo hi M = some e) : e ≠ 0 := by
  unfold groundsR at h
  split at h
  · cases h; decide
  · split at h
    · cases h; decide
    · exact rowsErr_nz h
theorem squareR_nz {most lo hi : Int} {M : List (List Int)} {e : Int} (h : squareR most lo hi M = some e) : e ≠ 0 := by
  unfold squareR at h
  split at h
  · split at h
    · cases h
    · cases h; decide
  · exact groundsR_nz h
/-- No error, a number; an error, a number; an error and its own number. -/
theorem E_nil {e : Int} {w : World} (hg : ErrT w) : Calls Tryd.prog 17 #[.nilIface, .int .i64 e] w fun ev w' => ev = .returned (.bool (0 == e)) ∧ Below w.heap.size w w' := E_Error_any (x := none) hg
theorem E_nil0 {w : World} (hg : ErrT w) : Calls Tryd.prog 17 #[.nilIface, .int .i64 0] w fun ev w' => ev = .returned (.bool true) ∧ Below w.heap.size w w' := E_Error_any (x := none) hg
theorem E_some {c e : Int} {w : World} (hg : ErrT w) : Calls Tryd.prog 17 #[.iface 70 (.int .i64 c), .int .i64 e] w fun ev w' => ev = .returned (.bool (c == e)) ∧ Below w.heap.size w w' := E_Error_any (x := some c) hg
theorem E_same {c : Int} {w : World} (hg : ErrT w) : Calls Tryd.prog 17 #[.iface 70 (.int .i64 c), .int .i64 c] w fun ev w' => ev = .returned (.bool true) ∧ Below w.heap.size w w' := by
  have := E_Error_any (x := some c) (e := c) hg
  rw [show ((some c).getD 0 == c) = true from beq_iff_eq.2 rfl] at this
  exact this
end Go.Proofs.YtkielldinghmbaaDoor
namespace Go.Proofs.YtkielldinghmbaaDoor
open Go.RowKit Go.Rk

theorem R_Field_any {a : Option Addr} {n cap : Nat} {M : List (List Int)} {w : World} {o : Option Int} (h : RdM w a n cap M) (ho : groundsR 5 0 9972 M = o) :
    Calls Tryd.prog 16 #[.slice a n cap] w fun e w' => e = .returned (numV o) ∧ Below w.heap.size w w' := by
  have C := R_Matrix_any 5 0 9972 h
  rw [ho] at C
  have C := Lib.hid C
  clear ho
  go_enter Tryd.func16, Tryd.ntmps16
  go_wp2_with (first | (go_at_call 61; (with_reducible refine C.out.mono ?_); rintro e w1 ⟨rfl, hb⟩))
  go_ret
  exact ⟨rfl, hb⟩
theorem Rows_eq {a a2 : Option Addr} {len len2 cap cap2 : Nat} {M N : List (List Int)} {w : World} (h : RdM w a len cap M) (h2 : RdM w a2 len2 cap2 N) (e : M = N) :
    Calls Tryd.prog 21 #[.slice a len cap, .slice a2 len2 cap2] w fun e w' => e = .returned (.bool true) ∧ Below w.heap.size w w' := by
  refine (Rows_any h h2).mono ?_
  rintro _ _ ⟨rfl, hb⟩
  exact ⟨by rw [decide_eq_true e], hb⟩
theorem Rows_none (w : World) : Calls Tryd.prog 21 #[.slice none 0 0, .slice none 0 0] w fun e w' => e = .returned (.bool true) ∧ Below w.heap.size w w' := Rows_eq (RdM.nil w) (RdM.nil w) rfl
theorem Ints_eq {a a2 : Option Addr} {len len2 cap cap2 : Nat} {l m : List Int} {w : World} (h : RdI w a len cap l) (h2 : RdI w a2 len2 cap2 m) (e : l = m) :
    Calls Tryd.prog 32 #[.slice a len cap, .slice a2 len2 cap2] w fun e w' => e = .returned (.bool true) ∧ Below w.heap.size w w' := by
  refine (Ints_any h h2).mono ?_
  rintro _ _ ⟨rfl, hb⟩
  exact ⟨by rw [decide_eq_true e], hb⟩
theorem Ints_none (w : World) : Calls Tryd.prog 32 #[.slice none 0 0, .slice none 0 0] w fun e w' => e = .returned (.bool true) ∧ Below w.heap.size w w' := Ints_eq (RdI.nil w) (RdI.nil w) rfl
end Go.Proofs.YtkielldinghmbaaDoor
namespace Go.Proofs.YtkielldinghmbaaDoor
open Go.RowKit Go.Rk

section
variable {a b : Option Addr} {n c m ca cb : Nat} {M : List (List Int)} {t : List Int} {w : World}
theorem One_shape (hM : RdM w a n ca M) (G : Good n c M) (_ : RdI w b m cb t) (hl : m ≠ n) :
    Calls Tryd.prog 52 #[.slice a n ca, .slice b m cb] w fun e w' => e = .returned (.tuple #[.slice none 0 0, .iface 70 (.int .i64 3)]) ∧ w = w' := by
  have C := Lib.hid (mat_Check_is hM G.gr)
  have z0 : ((m : Int) != (n : Int)) = true := bne_iff_ne.2 (by omega)
  clear hl G
  go_enter Tryd.func52, Tryd.ntmps52
  go_wp2_with (go_at_call 18; refine C.out.mono ?_; rintro e w' ⟨rfl, rfl⟩; simp only [errV])
  go_ret2
  exact ⟨rfl, rfl⟩
theorem One_range (hM : RdM w a n ca M) (G : Good n c M) (ht : RdI w b n cb t) (hy : anyB 0 9972 t = true) :
    Calls Tryd.prog 52 #[.slice a n ca, .slice b n cb] w fun e w' => e = .returned (.tuple #[.slice none 0 0, .iface 70 (.int .i64 1)]) ∧ w = w' := by
  have C := Lib.hid (mat_Check_is hM G.gr)
  have C2 := any_any b n cb t 0 9972 w ht
  rw [hy] at C2
  have C2 := Lib.hid C2
  have z0 : ((n : Int) != (n : Int)) = false := bne_eq_false_iff_eq.2 rfl
  clear hy G
  go_enter Tryd.func52, Tryd.ntmps52
  go_wp2_with (first | (go_at_call 18; refine C.out.mono ?_; rintro e w' ⟨rfl, rfl⟩; simp only [errV]) | (go_at_call 78; refine C2.out.mono ?_; rintro e w' ⟨rfl, rfl⟩))
  go_ret2
  exact ⟨rfl, rfl⟩
set_option maxHeartbeats 4000000 in
set_option maxRecDepth 100000 in
theorem solveSays_err {x : Int} (hg : ErrT w) (hM : RdM w a n ca M) (_ : RdI w b m cb t) (hq : groundsR 5 0 9972 M = some x) :
    Calls Tryd.prog 9 #[.slice a n ca, .slice b m cb] w fun e w' => e = .returned (.bool true) ∧ Below w.heap.size w w' := by
  have C0 := Lib.hid (R_Field_any hM hq)
  have HQ := Lib.hid hq
  have z1 : (x == 0) = false := beq_eq_false_iff_ne.2 (groundsR_nz hq)
  clear hq
  go_enter Tryd.func9, Tryd.ntmps9
  go_wp2_with (first
    | (go_at_call 16; (with_reducible refine C0.out.mono ?_); rintro e w1 ⟨rfl, k1⟩; simp only [numV, Option.getD_some])
    | (go_at_call 49; refine (Null_err (hM.below k1) HQ.out).mono ?_; rintro e w2 ⟨rfl, rfl⟩)
    | (go_at_call 17; fail))
  refine (E_same (hg.below k1)).mono ?_
  rintro e w3 ⟨rfl, b3⟩
  have k3 := below_tr k1 b3
  clear C0 k1 b3
  go_wp2_with (first
    | (go_at_call 21; refine (Rows_none _).mono ?_; rintro e w4 ⟨rfl, b4⟩; have k4 := below_tr k3 b4)
    | (go_at_call 52; refine (One_gr (hM.below k4) HQ.out).mono ?_; rintro e w5 ⟨rfl, rfl⟩)
    | (go_at_call 17; refine (E_same (hg.below k4)).mono ?_; rintro e w6 ⟨rfl, b6⟩; have k6 := below_tr k4 b6)
    | (go_at_call 32; refine (Ints_none _).mono ?_; rintro e w7 ⟨rfl, b7⟩))
  go_ret
  exact ⟨rfl, below_tr k6 b7⟩

set_option maxHeartbeats 4000000 in
set_option maxRecDepth 100000 in
theorem solveSays_len (hg : ErrT w) (hM : RdM w a n ca M) (G : Good n c M) (ht : RdI w b m cb t) (hl : m ≠ n) :
    Calls Tryd.prog 9 #[.slice a n ca, .slice b m cb] w fun e w' => e = .returned (.bool true) ∧ Below w.heap.size w w' := by
  have lm := hM.len_max
  have lt := ht.len_max
  have C0 := Lib.hid (R_Field_any hM G.gr)
  have n1 := G.n1
  have c1 := G.c1
  have HG := Lib.hid G
  have z2 : ((m : Int) != (n : Int)) = true := bne_iff_ne.2 (by omega)
  have HL := Lib.hid hl
  clear hl
  clear G
  go_enter Tryd.func9, Tryd.ntmps9
  go_wp2_with (first
    | (go_at_call 16; (with_reducible refine C0.out.mono ?_); rintro e w1 ⟨rfl, k1⟩; simp only [numV, Option.getD_none])
    | (go_at_call 48; fail))
  refine (M_Null_any (hM.below k1) HG.out.dm HG.out.ent (by omega) (by omega)).mono ?_
  rintro e w2 ⟨aW, cW, W, Pw, qw, rfl, hW, gW, nW, b2⟩
  have k2 := below_tr k1 b2
  have HW := hW.rd
  have GW : Hid (GInv n c (mx M) c Pw qw ∧ Nul c c Pw qw W) := ⟨gW, nW⟩
  clear hW gW nW b2 k1 C0
  go_wp2_with (go_at_call 49; fail)
  refine (Null_ok (hM.below k2) HG.out).mono ?_
  rintro e w3 ⟨aL, cL, L, Pl, ql, rfl, hL, gL, nL, b3⟩
  have k3 := below_tr k2 b3
  obtain ⟨rfl, rfl⟩ := gL.same GW.out.1 (Made.refl _ _ _) (Made.refl _ _ _)
  obtain rfl : L = W := Nul.same gL nL GW.out.2
  have hW3 := HW.below b3
  have hL3 := hL.rd
  clear hL gL nL GW b3 k2 HW
  go_wp2_with fail
  refine (E_nil0 (hg.below k3)).mono ?_
  rintro e w4 ⟨rfl, b4⟩
  have k4 := below_tr k3 b4
  have C := Lib.hid (Rows_eq (hL3.below b4) (hW3.below b4) rfl)
  clear hL3 hW3 b4 k3
  go_wp2_with (first
    | (go_at_call 21; (with_reducible refine C.out.mono ?_); rintro e w5 ⟨rfl, b5⟩; have k5 := below_tr k4 b5)
    | (go_at_call 52; refine (One_shape (hM.below k5) HG.out (ht.below k5) HL.out).mono ?_; rintro e w6 ⟨rfl, rfl⟩)
    | (go_at_call 17; refine (E_same (hg.below k5)).mono ?_; rintro e w7 ⟨rfl, b7⟩; have k7 := below_tr k5 b7)
    | (go_at_call 32; refine (Ints_none _).mono ?_; rintro e w8 ⟨rfl, b8⟩))
  go_ret
  exact ⟨rfl, below_tr k7 b8⟩

set_option maxHeartbeats 4000000 in
set_option maxRecDepth 100000 in
theorem solveSays_rng (hg : ErrT w) (hM : RdM w a n ca M) (G : Good n c M) (ht : RdI w b m cb t) (hl : m = n) (hy : anyB 0 9972 t = true) :
    Calls Tryd.prog 9 #[.slice a n ca, .slice b m cb] w fun e w' => e = .returned (.bool true) ∧ Below w.heap.size w w' := by
  have lm := hM.len_max
  have lt := ht.len_max
  have C0 := Lib.hid (R_Field_any hM G.gr)
  have n1 := G.n1
  have c1 := G.c1
  have HG := Lib.hid G
  obtain rfl : n = m := hl.symm
  have z2 : ((n : Int) != (n : Int)) = false := bne_eq_false_iff_eq.2 rfl
  have CR : Hid (∀ w' : World, Below w.heap.size w w' → Calls Tryd.prog 50 #[.slice b n cb, .int .i64 0, .int .i64 9972] w' fun e w2 => e = .returned (.bool false) ∧ w' = w2) := fun w' k => by
    have := R_All_any 0 9972 (ht.below k)
    rw [allB_any, hy] at this
    exact this
  have HY := Lib.hid hy
  clear hy
  clear G
  go_enter Tryd.func9, Tryd.ntmps9
  go_wp2_with (first
    | (go_at_call 16; (with_reducible refine C0.out.mono ?_); rintro e w1 ⟨rfl, k1⟩; simp only [numV, Option.getD_none])
    | (go_at_call 48; fail))
  refine (M_Null_any (hM.below k1) HG.out.dm HG.out.ent (by omega) (by omega)).mono ?_
  rintro e w2 ⟨aW, cW, W, Pw, qw, rfl, hW, gW, nW, b2⟩
  have k2 := below_tr k1 b2
  have HW := hW.rd
  have GW : Hid (GInv n c (mx M) c Pw qw ∧ Nul c c Pw qw W) := ⟨gW, nW⟩
  clear hW gW nW b2 k1 C0
  go_wp2_with (go_at_call 49; fail)
  refine (Null_ok (hM.below k2) HG.out).mono ?_
  rintro e w3 ⟨aL, cL, L, Pl, ql, rfl, hL, gL, nL, b3⟩
  have k3 := below_tr k2 b3
  obtain ⟨rfl, rfl⟩ := gL.same GW.out.1 (Made.refl _ _ _) (Made.refl _ _ _)
  obtain rfl : L = W := Nul.same gL nL GW.out.2
  have hW3 := HW.below b3
  have hL3 := hL.rd
  clear hL gL nL GW b3 k2 HW
  go_wp2_with fail
  refine (E_nil0 (hg.below k3)).mono ?_
  rintro e w4 ⟨rfl, b4⟩
  have k4 := below_tr k3 b4
  have C := Lib.hid (Rows_eq (hL3.below b4) (hW3.below b4) rfl)
  clear hL3 hW3 b4 k3
  go_wp2_with (first
    | (go_at_call 21; (with_reducible refine C.out.mono ?_); rintro e w5 ⟨rfl, b5⟩; have k5 := below_tr k4 b5)
    | (go_at_call 50; refine (CR.out _ k5).mono ?_; rintro e w6 ⟨rfl, rfl⟩)
    | (go_at_call 52; refine (One_range (hM.below k5) HG.out (ht.below k5) HY.out).mono ?_; rintro e w6 ⟨rfl, rfl⟩)
    | (go_at_call 17; refine (E_same (hg.below k5)).mono ?_; rintro e w7 ⟨rfl, b7⟩; have k7 := below_tr k5 b7)
    | (go_at_call 32; refine (Ints_none _).mono ?_; rintro e w8 ⟨rfl, b8⟩))
  go_ret
  exact ⟨rfl, below_tr k7 b8⟩

set_option maxHeartbeats 4000000 in
set_option maxRecDepth 100000 in
theorem solveSays_all (hg : ErrT w) (hM : RdM w a n ca M) (G : Good n c M) (ht : RdI w b m cb t) (hl : m = n) (hy : anyB 0 9972 t = false) :
    Calls Tryd.prog 9 #[.slice a n ca, .slice b m cb] w fun e w' => e = .returned (.bool true) ∧ Below w.heap.size w w' := by
  have lm := hM.len_max
  have lt := ht.len_max
  have C0 := Lib.hid (R_Field_any hM G.gr)
  have n1 := G.n1
  have c1 := G.c1
  have HG := Lib.hid G
  obtain rfl : n = m := hl.symm
  have z2 : ((n : Int) != (n : Int)) = false := bne_eq_false_iff_eq.2 rfl
  have CR : Hid (∀ w' : World, Below w.heap.size w w' → Calls Tryd.prog 50 #[.slice b n cb, .int .i64 0, .int .i64 9972] w' fun e w2 => e = .returned (.bool true) ∧ w' = w2) := fun w' k => by
    have := R_All_any 0 9972 (ht.below k)
    rw [allB_any, hy] at this
    exact this
  have HY := Lib.hid hy
  clear hy
  clear G
  go_enter Tryd.func9, Tryd.ntmps9
  go_wp2_with (first
    | (go_at_call 16; (with_reducible refine C0.out.mono ?_); rintro e w1 ⟨rfl, k1⟩; simp only [numV, Option.getD_none])
    | (go_at_call 48; fail))
  refine (M_Null_any (hM.below k1) HG.out.dm HG.out.ent (by omega) (by omega)).mono ?_
  rintro e w2 ⟨aW, cW, W, Pw, qw, rfl, hW, gW, nW, b2⟩
  have k2 := below_tr k1 b2
  have HW := hW.rd
  have GW : Hid (GInv n c (mx M) c Pw qw ∧ Nul c c Pw qw W) := ⟨gW, nW⟩
  clear hW gW nW b2 k1 C0
  go_wp2_with (go_at_call 49; fail)
  refine (Null_ok (hM.below k2) HG.out).mono ?_
  rintro e w3 ⟨aL, cL, L, Pl, ql, rfl, hL, gL, nL, b3⟩
  have k3 := below_tr k2 b3
  obtain ⟨rfl, rfl⟩ := gL.same GW.out.1 (Made.refl _ _ _) (Made.refl _ _ _)
  obtain rfl : L = W := Nul.same gL nL GW.out.2
  have hW3 := HW.below b3
  have hL3 := hL.rd
  clear hL gL nL GW b3 k2 HW
  go_wp2_with fail
  refine (E_nil0 (hg.below k3)).mono ?_
  rintro e w4 ⟨rfl, b4⟩
  have k4 := below_tr k3 b4
  have C := Lib.hid (Rows_eq (hL3.below b4) (hW3.below b4) rfl)
  clear hL3 hW3 b4 k3
  have IT := Lib.hid (in_of_any HY.out)
  go_wp2_with (first
    | (go_at_call 21; (with_reducible refine C.out.mono ?_); rintro e w5 ⟨rfl, b5⟩; have k5 := below_tr k4 b5)
    | (go_at_call 50; refine (CR.out _ k5).mono ?_; rintro e w6 ⟨rfl, rfl⟩)
    | (go_at_call 51; fail))
  have C5 := Lib.hid (M_Solve_any (hM.below k5) HG.out.dm HG.out.ent (by omega) (by omega) (ht.below k5) IT.out)
  clear C k4 b5
  (with_reducible refine C5.out.mono ?_)
  clear C5
  rintro e w6 ⟨Q, qs, hR, hor, b6⟩
  have k6 := below_tr k5 b6
  have HR := Lib.hid hR
  have C6 := Lib.hid (One_ok (hM.below k6) HG.out (ht.below k6) IT.out)
  clear k5 b6 hR
  rcases hor with ⟨hz, x, ax, cx, rfl, hx, xr⟩ | ⟨hne, rfl⟩
  · have HX : Hid ((∀ i, qs.length ≤ i → i < n → ix (colT Q c n) i = 0) ∧ XRow c (colT Q c n) qs x) := ⟨hz, xr⟩
    have hx6 := hx.rd
    clear hz xr hx
    go_wp2_with (go_at_call 52; fail)
    (with_reducible refine C6.out.mono ?_)
    clear C6
    rintro e w7 ⟨P, T, ps, y, hP, yr, hor, b7⟩
    have k7 := below_tr k6 b7
    obtain ⟨s1, s2⟩ := solve_same HG.out.dm ht.len_eq IT.out hP yr HR.out HX.out.2 HX.out.1
    rcases hor with ⟨_, ay, cy, rfl, hy⟩ | ⟨hn, rfl⟩
    · have hx7 := hx6.below b7
      have hy7 := hy.rd
      have HS := Lib.hid s2
      clear hP yr s1 s2 HX HR hy b7 hx6
      go_wp2_with fail
      refine (E_nil0 (hg.below k7)).mono ?_
      rintro e w8 ⟨rfl, b8⟩
      have k8 := below_tr k7 b8
      have C := Lib.hid (Ints_eq (hy7.below b8) (hx7.below b8) HS.out)
      clear hx7 hy7 b8
      go_wp2_with (go_at_call 32; (with_reducible refine C.out.mono ?_); rintro e w9 ⟨rfl, b9⟩)
      go_ret
      exact ⟨rfl, below_tr k8 b9⟩
    · exact absurd s1 hn
  · have HN := Lib.hid hne
    clear hne
    go_wp2_with (go_at_call 52; fail)
    (with_reducible refine C6.out.mono ?_)
    clear C6
    rintro e w7 ⟨P, T, ps, y, hP, yr, hor, b7⟩
    have k7 := below_tr k6 b7
    rcases hor with ⟨ht', ay, cy, rfl, hy⟩ | ⟨hn, rfl⟩
    · obtain ⟨i, h1, h2, h3⟩ := HN.out
      exact absurd ht' (solve_none HG.out.dm HR.out h1 h2 h3)
    · clear hP yr HN HR hn b7
      go_wp2_with (first
        | (go_at_call 17; refine (E_same (hg.below k7)).mono ?_; rintro e w8 ⟨rfl, b8⟩; have k8 := below_tr k7 b8)
        | (go_at_call 32; refine (Ints_none _).mono ?_; rintro e w9 ⟨rfl, b9⟩))
      go_ret
      exact ⟨rfl, below_tr k8 b9⟩

theorem solveSays_walk (hg : ErrT w) (hM : RdM w a n ca M) (_ : ∀ r ∈ M, Fit r) (ht : RdI w b m cb t) (_ : Fit t) :
    Calls Tryd.prog 9 #[.slice a n ca, .slice b m cb] w fun e w' => e = .returned (.bool true) ∧ Below w.heap.size w w' := by
  rcases h : groundsR 5 0 9972 M with _ | x
  · have G := Good.of hM.len_eq h
    by_cases hl : m = n
    · rcases hy : anyB 0 9972 t
      · exact solveSays_all hg hM G ht hl hy
      · exact solveSays_rng hg hM G ht hl hy
    · exact solveSays_len hg hM G ht hl
  · exact solveSays_err hg hM ht h
end
end Go.Proofs.YtkielldinghmbaaDoor

/-
  The walk of det.Sign: an order's sign, by its cycles.
  The closed fact of the statements on determinants.
  When nothing is wrong with a matrix; determinants of matrices with a row changed, modulo 9973. Plain Lean on the words of the walks.
  num.Each: a range over all places of a matrix: the contract of its iterator, for every loop body that keeps the matrix's shape (and what is asked of its numbers).
  Matrices of n rows of c numbers; what a loop over all places keeps of them. No program in sight.
  A region in a round of a range over a function: what is walked of a region elsewhere holds in a round too, if none of its operations is a defer statement. No program in sight.
-/
import Derived.Test.YtkielldinghmbaaDoorRows
import Derived.RangeFuncNested
import Derived.RangeFuncBound
import Derived.RangeFuncCalls
import Derived.RangeFuncLeaves
import Derived.Shelf.Abstract
import Derived.Shelf.RegionOpen
import Derived.WalkKit
import Derived.OwnWalkIn
import Derived.TacticsInMore
import Derived.LoopNIn
import Derived.LoopIn
import Derived.OrdersIn
import Derived.TacticsIn
import Derived.Deep.Quiet
import Derived.StillTail
import Derived.Test.YtkielldinghmbaaDoorMg0
import Derived.Test.YtkielldinghmbaaDoorMg1
import Derived.Test.YtkielldinghmbaaDoorMg2
import Derived.Test.YtkielldinghmbaaDoorMg3
namespace Go.Rk
open Go.RowKit

def bx (l : List Bool) (k : Nat) : Bool := l.getD k false
theorem bx_set (l : List Bool) (k j : Nat) (x : Bool) : bx (l.set k x) j = if k = j ∧ j < l.length then x else bx l j := by
  simp only [bx, List.getD, List.getElem?_set]
  by_cases h1 : k = j
  · subst h1
    by_cases h2 : k < l.length <;> simp [h2]
  · simp [h1]

/-- A slice of bools of the call's own. -/
structure OwB (w : World) (B E : Nat) (a : Option Addr) (n cap : Nat) (l : List Bool) : Prop where
  len_eq : l.length = n
  own : w.ownsRow B E 1 (.slice a n cap) n (l.map Value.bool)

structure BoolTy (P : Program) (T E : TypeId) : Prop where
  ht : P.underlying T = some (.slice E)
  hi : ∃ i, P.info? E = some i ∧ i.zero = some (.bool false) ∧ i.size = 1 ∧ i.bytes = 1

section
variable {w w' : World} {B E : Nat} {a : Option Addr} {n cap : Nat} {l : List Bool}
theorem OwB.at (h : OwB w B E a n cap l) (hn : 0 < n) :
    ∃ g, a = some ⟨g, 0, none⟩ ∧ B ≤ g ∧ g < w.heap.size ∧ (∀ i, i < n → w.cell? ⟨g, i, none⟩ = some (.bool (bx l i))) ∧ ∀ i, w.frozen? ⟨g, i, none⟩ = false := by
  obtain ⟨g, c, hv, hb, hlt⟩ := h.own.form hn
  injection hv with ha _ hc
  subst ha; subst hc
  refine ⟨g, rfl, hb, hlt, fun i hi => ?_, fun i => h.own.frozenAt i⟩
  rw [h.own.cellAt i (by omega), List.getElem?_map, List.getElem?_eq_getElem (by rw [h.len_eq]; exact hi)]
  simp [bx, List.getD, h.len_eq, hi]
theorem OwB.below (h : OwB w B E a n cap l) (hb : Below w.heap.size w w') : OwB w' B E a n cap l :=
  ⟨h.len_eq, h.own.kept (row := none) ⟨hb.os, hb.tape, hb.output, hb.size, fun k hk _ => hb.block k hk⟩ (by cases (Value.slice a n cap).ownBlock <;> simp)⟩
theorem OwB.set {g k : Nat} (h : OwB w B E (some ⟨g, 0, none⟩) n cap l) (x : Bool) : OwB (w.setCell ⟨g, k, none⟩ (.bool x)) B E (some ⟨g, 0, none⟩) n cap (l.set k x) :=
  ⟨by rw [List.length_set]; exact h.len_eq, by rw [List.map_set]; exact (h.own.stored k _).1⟩
end

theorem wpList_make_bools {P : Program} {T E : TypeId} {w : World} (hT : BoolTy P T E) {ops : Array Oper} {rest : List Oper} {o : Oper} {ac : Act} {Q : Exit → Act → World → Prop} (hgd : o.guard = none) (x y : Operand) (ho : o.op = .makeSlice T x y)
    {n : Nat} (hx : ac.eval x = .int .i64 n) (hy : ac.eval y = .int .i64 n) (hn : n ≤ 1000000)
    (h : ∀ w', OwB w' w.heap.size E (some ⟨w.heap.size, 0, none⟩) n n (List.replicate n false) → Below w.heap.size w w' → wpList P ops Q rest (ac.put o.dst (.slice (some ⟨w.heap.size, 0, none⟩) n n)) w') : wpList P ops Q (o :: rest) ac w := by
  obtain ⟨i, hi, hz, hs, hby⟩ := hT.hi
  refine wpList_make_full w hgd x y T ho w.heap.size E i (.bool false) 1 hT.ht hi hz hs .i64 .i64 n n n hx hy rfl rfl (by rw [hby]; omega) (by unfold maxLen; omega) (Nat.le_refl _) fun w' h1 h2 => h w' ⟨by simp, ?_⟩ (below_of_grown h2)
  have : (madeCells (Value.bool false).cells (n * 1)).toList = (List.replicate n false).map Value.bool := by
    rw [Nat.mul_one, List.map_replicate]
    exact toList_madeCells_one _ n
  rw [this] at h1
  exact h1

/-- Which numbers have been met in the first k places. -/
def metN (l : List Int) (n : Nat) : Nat → List Bool
  | 0 => List.replicate n false
  | k + 1 => (metN l n k).set (ix l k).toNat true
/-- Nothing is wrong in the first k places: each number a place, none of them twice. -/
def okN (l : List Int) (n : Nat) : Nat → Bool
  | 0 => true
  | k + 1 => okN l n k && !(decide (ix l k < 0) || decide ((n : Int) - 1 < ix l k)) && !bx (metN l n k) (ix l k).toNat

theorem metN_len (l : List Int) (n k : Nat) : (metN l n k).length = n := by
  induction k with
  | zero => simp [metN]
  | succ k ih => simp [metN, ih]

theorem okN_le {l : List Int} {n : Nat} : ∀ {k}, okN l n k = true → ∀ j, j < k → 0 ≤ ix l j ∧ ix l j ≤ (n : Int) - 1 := by
  intro k
  induction k with
  | zero => intro _ j hj; omega
  | succ k ih =>
    intro h j hj
    simp only [okN, Bool.and_eq_true, Bool.not_eq_true', Bool.or_eq_false_iff, decide_eq_false_iff_not] at h
    rcases Nat.lt_or_ge j k with h1 | h1
    · exact ih h.1.1 j h1
    · obtain rfl : j = k := by omega
      omega

theorem okN_false {l : List Int} {n k m : Nat} (h : okN l n k = false) (hkm : k ≤ m) : okN l n m = false := by
  induction m with
  | zero => obtain rfl : k = 0 := by omega
            exact h
  | succ m ih =>
    rcases Nat.lt_or_ge m k with h1 | h1
    · obtain rfl : k = m + 1 := by omega
      exact h
    · rw [okN, ih h1]; rfl

/-- One cycle from k on: what has been done, and how long it is. -/
def cycF (l : List Int) : Nat → List Bool → Nat → Nat → List Bool × Nat
  | 0, d, _, g => (d, g)
  | f + 1, d, k, g => if bx d k then (d, g) else cycF l f (d.set k true) (ix l k).toNat (g + 1)
def cycN (l : List Int) (n : Nat) : Nat → List Bool × Int
  | 0 => (List.replicate n false, 1)
  | i + 1 => ((cycF l (n + 1) (cycN l n i).1 i 0).1, if 0 < (cycF l (n + 1) (cycN l n i).1 i 0).2 ∧ (cycF l (n + 1) (cycN l n i).1 i 0).2 % 2 = 0 then -(cycN l n i).2 else (cycN l n i).2)
/-- An order's sign. -/
def signC (l : List Int) : Int := if okN l l.length l.length then (cycN l l.length l.length).2 else 0

def cntF (d : List Bool) : Nat := (d.filter fun b => !b).length
theorem cntF_set {d : List Bool} {k : Nat} (hk : k < d.length) (h : bx d k = false) : cntF (d.set k true) + 1 = cntF d := by
  induction d generalizing k with
  | nil => simp at hk
  | cons x d ih =>
    cases k with
    | zero =>
      have : x = false := by simpa [bx] using h
      subst this
      simp [cntF]
    | succ k =>
      have h2 : bx d k = false := by simpa [bx] using h
      have := ih (by simpa using hk) h2
      simp only [cntF, List.set_cons_succ, List.filter_cons] at *
      cases x <;> simp <;> omega
theorem cntF_le (d : List Bool) : cntF d ≤ d.length := List.length_filter_le _ _

theorem cycF_len (l : List Int) : ∀ (f : Nat) (d : List Bool) (k g : Nat), (cycF l f d k g).1.length = d.length ∧ (cycF l f d k g).2 ≤ g + f := by
  intro f
  induction f with
  | zero => intro d k g; exact ⟨rfl, Nat.le_refl _⟩
  | succ f ih =>
    intro d k g
    rw [cycF]
    split
    · exact ⟨rfl, by omega⟩
    · have := ih (d.set k true) (ix l k).toNat (g + 1)
      simp only [List.length_set] at this
      omega

theorem cycN_len (l : List Int) (n i : Nat) : (cycN l n i).1.length = n ∧ ((cycN l n i).2 = 1 ∨ (cycN l n i).2 = -1) := by
  induction i with
  | zero => simp [cycN]
  | succ i ih =>
    simp only [cycN]
    refine ⟨by rw [(cycF_len l _ _ _ _).1, ih.1], ?_⟩
    split <;> omega
end Go.Rk
namespace Go.Proofs.YtkielldinghmbaaDoor
open Go.RowKit Go.Rk

theorem infoBool : (Tryd.prog.info? 4).map (fun i => (i.zero, i.size, i.bytes)) = some (some (.bool false), 1, 1) := by kernel_rfl
theorem boolTy : BoolTy Tryd.prog 80 4 := by
  obtain ⟨i0, hi, h0, h1, h2⟩ := info_parts infoBool
  exact ⟨Tryd.underlying80, ⟨i0, hi, h0, h1, h2⟩⟩

set_option maxHeartbeats 2000000 in
theorem Sign_any {a : Option Addr} {n cap : Nat} {l : List Int} {w : World} (h : RdI w a n cap l) (hn : n ≤ 1000) :
    Calls Tryd.prog 40 #[.slice a n cap] w fun e w' => e = .returned (.int .i64 (signC l)) ∧ Below w.heap.size w w' := by
  have E1 := Lib.hid h.len_eq
  have HB := Lib.hid boolTy
  have hb0 : Below w.heap.size w w := Below.refl _ _
  go_enter Tryd.func40, Tryd.ntmps40
  go_wp2_with (at_make; refine wpList_make_bools HB.out rfl (.tmp 12) (.tmp 12) rfl rfl rfl (by omega) ?_; intro w1 ho1 hb1)
  go_loopw [16] (fun i wr => ∃ k : Nat, k ≤ n ∧ i = .int .i64 k ∧ Hid (okN l n k = true) ∧ OwB wr w.heap.size 4 (some ⟨w.heap.size, 0, none⟩) n n (metN l n k) ∧ Below w.heap.size w wr) (fun i _ => n - (intOf i).toNat)
  case atStart => exact ⟨0, Nat.zero_le _, rfl, rfl, ho1, hb1⟩
  case round =>
    obtain ⟨k, hk, rfl, hok, ho, hb⟩ := hrel
    by_cases hlt : k < n
    · obtain ⟨b, off, rfl, hbl, hc⟩ := h.at hlt
      have hc := hb.keep hbl (hc k hlt)
      rcases hout : outB (ix l k) 0 ((n : Int) - 1)
      · have hr : 0 ≤ ix l k ∧ ix l k ≤ (n : Int) - 1 := by unfold outB at hout; simp at hout; omega
        obtain ⟨v, hv⟩ := Int.eq_ofNat_of_zero_le hr.1
        have hvn : v < n := by omega
        obtain ⟨g, hg, _, _, hcell, hfz⟩ := ho.at (by omega)
        injection hg with hg
        injection hg with hg
        subst hg
        have hc2 := hcell v hvn
        have hf := hfz v
        have HO := Lib.hid hout
        have HV := Lib.hid hv
        have HOv : Hid (outB (v : Int) 0 ((n : Int) - 1) = false) := by unfold Hid; rw [← hv]; exact hout
        rw [hv] at hc
        clear hout hv hr hcell hfz
        rcases hs : bx (metN l n k) v
        · rw [hs] at hc2
          have HS := Lib.hid hs
          clear hs
          go_wp2_with (go_at_call 70; refine (out_any _ _ _ _).mono ?_; rintro e w' ⟨rfl, rfl⟩; rw [HOv.out])
          go_roundw
          case rel =>
            refine ⟨k + 1, by omega, by go_num, ?_, ?_, hb.setCell (Nat.le_refl _) _⟩
            · unfold Hid
              have e1 := HO.out
              unfold outB at e1
              rw [okN, hok.out, e1, HV.out, Int.toNat_natCast, HS.out]; rfl
            · rw [metN, HV.out, Int.toNat_natCast]; exact ho.set true
          case measure => simp [intOf]; omega
        · rw [hs] at hc2
          have HS := Lib.hid hs
          clear hs
          go_wp2_with (go_at_call 70; refine (out_any _ _ _ _).mono ?_; rintro e w' ⟨rfl, rfl⟩; rw [HOv.out])
          go_ret
          refine ⟨ret_int ?_, hb⟩
          unfold signC
          rw [if_neg]
          rw [E1.out, okN_false (k := k + 1) (by rw [okN, HV.out, Int.toNat_natCast, HS.out]; simp) (by omega)]
          simp
      · have HO := Lib.hid hout
        clear hout
        go_wp2_with (go_at_call 70; refine (out_any _ _ _ _).mono ?_; rintro e w' ⟨rfl, rfl⟩; rw [HO.out])
        go_ret
        refine ⟨ret_int ?_, hb⟩
        unfold signC
        have e1 := HO.out
        unfold outB at e1
        rw [if_neg]
        rw [E1.out, okN_false (k := k + 1) (by rw [okN, e1]; simp) (by omega)]
        simp
    · obtain rfl : k = n := by omega
      have hin := Lib.hid (okN_le hok.out)
      go_wp2_with (at_make; refine wpList_make_bools HB.out rfl (.tmp 36) (.tmp 36) rfl rfl rfl (by omega) ?_; intro w2 ho2 hb2)
      have hb3 := hb.trans (hb2.mono hb.size)
      have hs0 := hb.size
      clear ho ho1 hb1
      generalize wr.heap.size = N at *
      go_loopw [6, 40] (fun s i wr2 => ∃ i' : Nat, i' ≤ k ∧ i = .int .i64 i' ∧ s = .int .i64 (cycN l k i').2 ∧ OwB wr2 N 4 (some ⟨N, 0, none⟩) k k (cycN l k i').1 ∧ Below w.heap.size w wr2) (fun _ i _ => k - (intOf i).toNat)
      case atStart => exact ⟨0, Nat.zero_le _, rfl, rfl, ho2, hb3⟩
      case round =>
        obtain ⟨i', hi1, rfl, rfl, ho4, hb4⟩ := hrel
        by_cases hlt2 : i' < k
        · have hcl := (cycN_len l k i').2
          go_wp2
          go_loopw [9, 10] (fun lg kk wr3 => ∃ (g v f : Nat) (d : List Bool), kk = .int .i64 v ∧ lg = .int .i64 g ∧ v < k ∧ g ≤ k ∧ g + cntF d ≤ k ∧ cntF d < f ∧ Hid (cycF l f d v g = cycF l (k + 1) (cycN l k i').1 i' 0) ∧ OwB wr3 N 4 (some ⟨N, 0, none⟩) k k d ∧ Below w.heap.size w wr3) (fun lg _ _ => k + 1 - (intOf lg).toNat)
          case atStart => exact ⟨0, i', k + 1, _, rfl, rfl, hlt2, by omega, by have := cntF_le (cycN l k i').1; rw [(cycN_len l k i').1] at this; omega, by have := cntF_le (cycN l k i').1; rw [(cycN_len l k i').1] at this; omega, rfl, ho4, hb4⟩
          case round =>
            obtain ⟨g, v, f, d, rfl, rfl, hv, hg, hcg, hf, hcyc, ho5, hb5⟩ := hrel
            obtain ⟨f', rfl⟩ : ∃ f', f = f' + 1 := ⟨f - 1, by omega⟩
            obtain ⟨g0, hg0, _, _, hcell, hfz⟩ := ho5.at (by omega)
            injection hg0 with hg0
            injection hg0 with hg0
            subst hg0
            have hc2 := hcell v hv
            have hfv := hfz v
            obtain ⟨b, off, rfl, hbl, hc⟩ := h.at hv
            have hc := (hb5.setCell (p := ⟨N, v, none⟩) hs0 (.bool true)).keep hbl (hc v hv)
            have hcnt := cntF_le d
            rw [ho5.len_eq] at hcnt
            rcases hs : bx d v
            · rw [hs] at hc2
              have hin2 := hin.out v hv
              have hst := cntF_set (d := d) (k := v) (by rw [ho5.len_eq]; exact hv) hs
              have HS := Lib.hid hs
              clear hs hcell hfz
              have HST := Lib.hid hst
              clear hst
              obtain ⟨u, hu⟩ := Int.eq_ofNat_of_zero_le hin2.1
              rw [hu] at hc
              have hun : u < k := by omega
              have HU := Lib.hid hu
              clear hu hin2
              have hg2 : g < k := by have := HST.out; omega
              go_wp2
              go_roundw
              case rel => exact ⟨g + 1, u, f', d.set v true, rfl, by go_num, hun, by omega, by have := HST.out; omega, by have := HST.out; omega, by unfold Hid; rw [← hcyc.out, cycF, HS.out, HU.out]; rfl, ho5.set true, hb5.setCell hs0 _⟩
              case measure => simp [intOf]; omega
            · rw [hs] at hc2
              have HS := Lib.hid hs
              clear hs hcell hfz
              have HR : Hid (cycF l (k + 1) (cycN l k i').1 i' 0 = (d, g)) := by unfold Hid; rw [← hcyc.out, cycF, HS.out]; rfl
              by_cases he : 0 < g ∧ g % 2 = 0
              · have h2 : ((g : Int) % 2 == 0) = true := beq_iff_eq.2 (by omega)
                have h3 : (0 : Int) < (g : Int) := by omega
                have HE := Lib.hid he
                clear he
                go_wp2
                go_roundw
                case rel => exact ⟨i' + 1, by omega, by go_num, by rw [cycN, HR.out]; simp only []; rw [if_pos HE.out], by rw [cycN, HR.out]; exact ho5, hb5⟩
                case measure => simp [intOf]; omega
              · have HE := Lib.hid he
                by_cases h3 : 0 < g
                · have h2 : ((g : Int) % 2 == 0) = false := beq_eq_false_iff_ne.2 (by omega)
                  have h3' : (0 : Int) < (g : Int) := by omega
                  clear he
                  go_wp2
                  go_roundw
                  case rel => exact ⟨i' + 1, by omega, by go_num, by rw [cycN, HR.out]; simp only []; rw [if_neg HE.out], by rw [cycN, HR.out]; exact ho5, hb5⟩
                  case measure => simp [intOf]; omega
                · have h3' : ¬ (0 : Int) < (g : Int) := by omega
                  clear he
                  go_wp2
                  go_roundw
                  case rel => exact ⟨i' + 1, by omega, by go_num, by rw [cycN, HR.out]; simp only []; rw [if_neg HE.out], by rw [cycN, HR.out]; exact ho5, hb5⟩
                  case measure => simp [intOf]; omega
        · obtain rfl : i' = k := by omega
          go_wp2
          go_ret
          refine ⟨ret_int ?_, hb4⟩
          unfold signC
          rw [E1.out, if_pos hok.out]
end Go.Proofs.YtkielldinghmbaaDoor
namespace Go.Proofs.YtkielldinghmbaaDoor
open Go.RowKit Go.Rk

end Go.Proofs.YtkielldinghmbaaDoor
namespace Go.Proofs.YtkielldinghmbaaDoor
open Go.Rk

theorem rowsErr_of {lo hi : Int} {m : Nat} {M : List (List Int)} (h : ∀ l ∈ M, l.length = m ∧ anyB lo hi l = false) : rowsErr lo hi m M = none := by
  unfold rowsErr
  induction M with
  | nil => rfl
  | cons l M ih =>
    obtain ⟨h1, h2⟩ := h l (by simp)
    have e : rowErr1 lo hi m l = none := by unfold rowErr1; rw [if_neg (by simp [h1]), h2]; simp
    rw [List.foldl_cons]
    show List.foldl _ (rowErr1 lo hi m l) M = none
    rw [e]
    exact ih fun l' hl' => h l' (by simp [hl'])

theorem squareR_of {most lo hi : Int} {M : List (List Int)} {n : Nat} (h1 : 1 ≤ n) (h2 : (n : Int) ≤ most) (hd : Dim n M) (he : Ent lo hi n M) : squareR most lo hi M = none := by
  have hr0 := hd.2 0 (by omega)
  have hg : groundsR most lo hi M = none := by
    unfold groundsR
    rw [if_neg (by rw [hd.1, hr0]; omega), if_neg (by rw [hd.1, hr0]; omega)]
    refine rowsErr_of fun l hl => ?_
    obtain ⟨k, hk, rfl⟩ := List.mem_iff_getElem.1 hl
    rw [← rowOf_lt hk, hr0]
    rw [hd.1] at hk
    refine ⟨hd.2 k hk, any_of_in fun j hj => ?_⟩
    rw [hd.2 k hk] at hj
    exact he k j hk hj
  unfold squareR
  rw [if_pos hg, if_pos (by rw [hd.1, hr0])]

theorem en_set {M : List (List Int)} {n i : Nat} (hd : Dim n M) (hi : i < n) (l : List Int) (r s : Nat) : en (M.set i l) r s = if r = i then ix l s else en M r s := by
  unfold en
  rw [rowOf_set]
  by_cases h : i = r
  · rw [if_pos ⟨h, by rw [← h, hd.1]; exact hi⟩, if_pos h.symm]
  · rw [if_neg fun e => h e.1, if_neg fun e => h e.symm]

theorem Dim.set {M : List (List Int)} {n i : Nat} (hd : Dim n M) {l : List Int} (hl : l.length = n) : Dim n (M.set i l) := by
  refine ⟨by rw [List.length_set]; exact hd.1, fun r hr => ?_⟩
  rw [rowOf_set]
  split
  · exact hl
  · exact hd.2 r hr

theorem Ent.setL {lo hi : Int} {M : List (List Int)} {n i : Nat} (hd : Dim n M) (he : Ent lo hi n M) (hi' : i < n) {l : List Int} (hl : l.length = n) (hln : In lo hi l) : Ent lo hi n (M.set i l) := by
  intro r s hr hs
  rw [en_set hd hi']
  split
  · exact hln s (by rw [hl]; exact hs)
  · exact he r s hr hs

theorem det_set {n : Nat} {M : List (List Int)} (hd : Dim n M) {i : Nat} (hi : i < n) (l : List Int) : det n (mx (M.set i l)) = det n (setRow (mx M) i (ix l)) :=
  det_congr fun r s _ _ => by
    show en (M.set i l) r s = _
    rw [en_set hd hi]
    rfl

theorem det_row_sum {n : Nat} {M B : List (List Int)} (hd : Dim n M) {i : Nat} (hi : i < n) (l : List Int) (hB : Is n B (fun r s => if r = i then (en M i s + ix l s) % 9973 else en M r s)) :
    det n (mx B) % 9973 = (det n (mx M) % 9973 + det n (mx (M.set i l)) % 9973) % 9973 := by
  have h1 : Eqm (det n (mx B)) (det n (setRow (mx M) i fun c => mx M i c + ix l c)) := det_eqm fun r s hr hs => by
    show Eqm (en B r s) _
    rw [hB.2 r s hr hs]
    simp only [setRow]
    by_cases h : r = i
    · rw [if_pos h, if_pos h]; exact Eqm.mod _
    · rw [if_neg h, if_neg h]; exact Eqm.refl _
  rw [det_row_add _ _ hi, Go.Rk.setRow_self, ← det_set hd hi] at h1
  have h2 := (Eqm.mod (det n (mx M))).add (Eqm.mod (det n (mx (M.set i l))))
  unfold Eqm at h1 h2
  omega

/-- Two rows exchanged. -/
theorem det_exch {n : Nat} {M : List (List Int)} (hd : Dim n M) {i j : Nat} (hij : i ≠ j) (hi : i < n) (hj : j < n) :
    det n (mx ((M.set i (rowOf M j)).set j (rowOf M i))) % 9973 = (-(det n (mx M) % 9973)) % 9973 := by
  have h1 : det n (mx ((M.set i (rowOf M j)).set j (rowOf M i))) = -det n (mx M) := by
    rw [← (det_alt n).swap (mx M) hij hi hj]
    refine det_congr fun r s _ _ => ?_
    show en (swapL M i j) r s = _
    rw [en_swapL hd hi hj]
    simp only [swapM, Go.Rk.setRow]
    rfl
  rw [h1]
  omega

/-- So many times one row added to another one. -/
theorem det_added {n : Nat} {M B : List (List Int)} {i j : Nat} (hij : i ≠ j) (hi : i < n) (hj : j < n) (k : Int) (hB : Is n B (fun r s => if r = i then (en M i s + k * en M j s) % 9973 else en M r s)) :
    det n (mx B) % 9973 = det n (mx M) % 9973 := by
  have h1 : Eqm (det n (mx B)) (det n (Go.Rk.setRow (mx M) i fun c => mx M i c + k * mx M j c)) := det_eqm fun r s hr hs => by
    show Eqm (en B r s) _
    rw [hB.2 r s hr hs]
    simp only [Go.Rk.setRow]
    by_cases h : r = i
    · rw [if_pos h, if_pos h]; exact Eqm.mod _
    · rw [if_neg h, if_neg h]; exact Eqm.refl _
  rw [(det_alt n).add_row (mx M) hij hi hj] at h1
  exact h1

/-- One row so many times. -/
theorem det_scaled {n : Nat} {M B : List (List Int)} {i : Nat} (hi : i < n) (k : Int) (hB : Is n B (fun r s => if r = i then (k * en M i s) % 9973 else en M r s)) :
    det n (mx B) % 9973 = (k * (det n (mx M) % 9973)) % 9973 := by
  have h1 : Eqm (det n (mx B)) (det n (Go.Rk.setRow (mx M) i fun c => k * mx M i c)) := det_eqm fun r s hr hs => by
    show Eqm (en B r s) _
    rw [hB.2 r s hr hs]
    simp only [Go.Rk.setRow]
    by_cases h : r = i
    · rw [if_pos h, if_pos h]; exact Eqm.mod _
    · rw [if_neg h, if_neg h]; exact Eqm.refl _
  rw [det_row_mul _ _ hi, Go.Rk.setRow_self] at h1
  exact h1.trans ((Eqm.refl k).mul (Eqm.mod _).symm)
end Go.Proofs.YtkielldinghmbaaDoor
namespace Go.Rk
open Go.RowKit

/-- A matrix of n rows of c numbers: where its rows and its numbers lie, and what is asked of each number. -/
structure Grid (n c b off : Nat) (D O C : Nat → Nat) (ok : Nat → Nat → Int → Prop) (W : World) : Prop where
  hdr : ∀ k, k < n → W.cell? ⟨b, off + k, none⟩ = some (.slice (some ⟨D k, O k, none⟩) c (C k))
  el : ∀ k j, k < n → j < c → ∃ v, W.cell? ⟨D k, O k + j, none⟩ = some (.int .i64 v) ∧ ok k j v

section
variable {n c b off : Nat} {D O C : Nat → Nat} {ok : Nat → Nat → Int → Prop} {W W' : World}
theorem Grid.below {n₀ : Nat} (h : Grid n c b off D O C ok W) (hk : Below n₀ W W') (hb : b < n₀) (hD : ∀ k, k < n → D k < n₀) : Grid n c b off D O C ok W' :=
  ⟨fun k hk2 => (hk.cell (p := ⟨b, off + k, none⟩) hb).trans (h.hdr k hk2), fun k j hk2 hj => let ⟨v, hv, ho⟩ := h.el k j hk2 hj; ⟨v, (hk.cell (p := ⟨D k, O k + j, none⟩) (hD k hk2)).trans hv, ho⟩⟩
end

/-- A place of the matrix, and its number. -/
abbrev Plc (n c : Nat) (ok : Nat → Nat → Int → Prop) := { x : Nat × Nat × Int // x.1 < n ∧ x.2.1 < c ∧ ok x.1 x.2.1 x.2.2 }
def encP {n c : Nat} {ok : Nat → Nat → Int → Prop} (x : Plc n c ok) : Array Value := #[.agg #[.int .i64 (x.1.1 : Int), .int .i64 (x.1.2.1 : Int)], .int .i64 x.1.2.2]
def locs (c k : Nat) : List (Nat × Nat) := (List.range k).map fun t => (t / c, t % c)
def plcs {n c : Nat} {ok : Nat → Nat → Int → Prop} (pre : List (Plc n c ok)) : List (Nat × Nat) := pre.map fun x => (x.1.1, x.1.2.1)

theorem locs_succ {c i j : Nat} (hj : j < c) : locs c (i * c + j + 1) = locs c (i * c + j) ++ [(i, j)] := by
  have h1 : (i * c + j) / c = i := by rw [Nat.mul_comm, Nat.mul_add_div (by omega), Nat.div_eq_of_lt hj, Nat.add_zero]
  have h2 : (i * c + j) % c = j := by rw [Nat.mul_comm, Nat.mul_add_mod, Nat.mod_eq_of_lt hj]
  simp [locs, List.range_succ, h1, h2]
theorem locs_length (c k : Nat) : (locs c k).length = k := by simp [locs]
theorem plcs_snoc {n c : Nat} {ok : Nat → Nat → Int → Prop} (pre : List (Plc n c ok)) (x : Plc n c ok) : plcs (pre ++ [x]) = plcs pre ++ [(x.1.1, x.1.2.1)] := by simp [plcs]
theorem plcs_length {n c : Nat} {ok : Nat → Nat → Int → Prop} (pre : List (Plc n c ok)) : (plcs pre).length = pre.length := by simp [plcs]
theorem place_lt {n c i j : Nat} (hi : i < n) (hj : j < c) : i * c + j < n * c := by
  have : (i + 1) * c ≤ n * c := Nat.mul_le_mul_right c hi
  rw [Nat.add_mul, Nat.one_mul] at this
  omega
end Go.Rk
namespace Go.Proofs.YtkielldinghmbaaDoor
open Go.RowKit Go.Shelf Go.Rk
attribute [local go_sem] Oper.semAt_some

set_option maxRecDepth 100000 in
set_option maxHeartbeats 4000000 in
theorem each1_in (m : Nat) {n c b off cap : Nat} {D O C : Nat → Nat} {ok : Nat → Nat → Int → Prop} (l Bm : Nat) (hn : n ≤ 1000000) (hc : c ≤ 1000000) (J Jx : List (Plc n c ok) → World → Prop)
    (hY : ∀ pre x W, J pre W → pre.length < n * c → YieldAt Fence.wide (m - 1) Tryd.prog l (encP x) W fun e W' =>
      (e = .returned (.bool true) ∧ J (pre ++ [x]) W' ∧ (Grid n c b off D O C ok W → Grid n c b off D O C ok W')) ∨ (e = .returned (.bool false) ∧ Jx (pre ++ [x]) W'))
    (W : World) (hBm : W.cell? ⟨Bm, 0, none⟩ = some (.slice (some ⟨b, off, none⟩) n cap)) (hG : Grid n c b off D O C ok W) (h0 : J [] W) :
    CallsIn Fence.wide m Tryd.prog 85 #[.func (.yield l) #[] #[], .pointer (some ⟨Bm, 0, none⟩)] W fun e W' => (∃ v, e = .returned v) ∧
      ((∃ ys, plcs ys = locs c (n * c) ∧ J ys W') ∨ (∃ pre, (∃ k, k ≤ n * c ∧ plcs pre = locs c k) ∧ Jx pre W')) := by
  refine callsIn_of_wp Tryd.func85 rfl trivial ?_ rfl
  simp only [Tryd.ntmps85, List.size_toArray, List.length_cons, List.length_nil, Nat.reduceAdd, Nat.reduceSub, Array.replicate_succ, Array.replicate_zero, List.push_toArray, List.append_toArray, List.nil_append, List.cons_append]
  gi_wp2
  gi_loopw [9] (fun v wr => ∃ (i : Nat) (pre : List (Plc n c ok)), i ≤ n ∧ v = .int .i64 i ∧ Hid (plcs pre = locs c (i * c)) ∧ J pre wr ∧ Grid n c b off D O C ok wr)
    (fun v _ => n - (intOf v).toNat)
  case atStart => exact ⟨0, [], Nat.zero_le _, rfl, by unfold Hid; rw [Nat.zero_mul]; rfl, h0, hG⟩
  case round =>
    obtain ⟨i, pre, hi, rfl, hp, hJ, hg⟩ := hrel
    by_cases hlt : i < n
    · have y1 := hg.hdr i hlt
      gi_wp2
      gi_loopw [16] (fun v wt => ∃ (j : Nat) (pre : List (Plc n c ok)), j ≤ c ∧ v = .int .i64 j ∧ Hid (plcs pre = locs c (i * c + j)) ∧ J pre wt ∧ Grid n c b off D O C ok wt)
        (fun v _ => c - (intOf v).toNat)
      case atStart => exact ⟨0, pre, Nat.zero_le _, rfl, hp, hJ, hg⟩
      case round =>
        clear hJ hp hg y1
        obtain ⟨j, pre, hj, rfl, hp, hJ, hg⟩ := hrel
        by_cases hjc : j < c
        · obtain ⟨v, y2, hok⟩ := hg.el i j hlt hjc
          have hlen : pre.length < n * c := by
            rw [← plcs_length, hp.out, locs_length]
            exact place_lt hlt hjc
          obtain ⟨fn, tmps, assign, body, hy, hR⟩ := hY pre ⟨(i, j, v), hlt, hjc, hok⟩ wr hJ hlen
          dsimp only [encP] at hy
          gi_wp2
          refine ⟨fun e => by simp [Fence.wide] at e, hR.mono ?_⟩
          rintro e W3 (⟨rfl, hJ3, hk3⟩ | ⟨rfl, hJx3⟩)
          · have hg3 := hk3 hg
            gi_wp2
            go_roundw
            case rel => exact ⟨j + 1, _, by omega, by go_num, by unfold Hid; rw [plcs_snoc, hp.out, ← Nat.add_assoc, locs_succ hjc], hJ3, hg3⟩
            case measure => simp [intOf]; omega
          · gi_wp2
            refine bodyPost_ret (results_none rfl _ _ _) rfl ?_
            exact ⟨⟨_, rfl⟩, .inr ⟨_, ⟨i * c + j + 1, place_lt hlt hjc, by rw [plcs_snoc, hp.out, locs_succ hjc]⟩, hJx3⟩⟩
        · obtain rfl : j = c := by omega
          gi_wp2
          go_roundw
          case rel => exact ⟨i + 1, pre, by omega, by go_num, by unfold Hid; rw [hp.out, Nat.add_mul, Nat.one_mul], hJ, hg⟩
          case measure => simp [intOf]; omega
    · obtain rfl : i = n := by omega
      gi_wp2
      go_end0
      exact ⟨⟨_, rfl⟩, .inl ⟨_, hp.out, hJ⟩⟩

/-- num.Each(m): the matrix is boxed; the function value captures the box. -/
theorem each_in (m : Nat) (a : Option Addr) (n cap : Nat) (w : World) :
    CallsIn Fence.wide m Tryd.prog 65 #[.slice a n cap] w fun e w' => e = .returned (.func (.func 85) #[] #[.pointer (some ⟨w.heap.size, 0, none⟩)]) ∧ w' = w.alloc (.cells #[.slice a n cap] 22) := by
  refine callsIn_of_wp Tryd.func65 rfl trivial ?_ rfl
  simp only [Tryd.ntmps65, List.size_toArray, List.length_cons, List.length_nil, Nat.reduceAdd, Nat.reduceSub, Array.replicate_succ, Array.replicate_zero, List.push_toArray, List.append_toArray, List.nil_append, List.cons_append]
  gi_wp2
  go_ret
  exact ⟨rfl, rfl⟩

/-- The iterator, for every loop body that keeps the shape. -/
theorem each_stops (m : Nat) {n c b off cap Bm : Nat} {D O C : Nat → Nat} {ok : Nat → Nat → Int → Prop} (hn : n ≤ 1000000) (hc : c ≤ 1000000) (w : World) (hBm : w.cell? ⟨Bm, 0, none⟩ = some (.slice (some ⟨b, off, none⟩) n cap)) (hBl : Bm < w.heap.size) (hG : Grid n c b off D O C ok w) (hb : b < w.heap.size) (hD : ∀ k, k < n → D k < w.heap.size) :
    SeqStopsK Fence.wide m Tryd.prog 85 #[.pointer (some ⟨Bm, 0, none⟩)] (encP (n := n) (c := c) (ok := ok)) (fun W W' => Grid n c b off D O C ok W → Grid n c b off D O C ok W')
      (fun ys => plcs ys = locs c (n * c)) (fun pre => ∃ k, k ≤ n * c ∧ plcs pre = locs c k) (n * c) w := fun l J Jx W hW _ _ hY h0 =>
  each1_in m l Bm hn hc J Jx hY W ((hW.cell (p := ⟨Bm, 0, none⟩) hBl).trans hBm) (hG.below hW hb hD) h0
end Go.Proofs.YtkielldinghmbaaDoor
namespace Go.Rk
open Go.RowKit

def Dm (n c : Nat) (M : List (List Int)) : Prop := M.length = n ∧ ∀ i, i < n → (rowOf M i).length = c
def EntR (lo hi : Int) (n c : Nat) (M : List (List Int)) : Prop := ∀ i j, i < n → j < c → lo ≤ en M i j ∧ en M i j ≤ hi
def IsR (n c : Nat) (M : List (List Int)) (F : Nat → Nat → Int) : Prop := Dm n c M ∧ ∀ i j, i < n → j < c → en M i j = F i j

theorem Dm.setE {n c : Nat} {M : List (List Int)} (h : Dm n c M) (i j : Nat) (x : Int) : Dm n c (setE M i j x) :=
  ⟨by rw [setE_len]; exact h.1, fun r hr => by rw [setE_row_len]; exact h.2 r hr⟩
theorem Dm.en_set {n c : Nat} {M : List (List Int)} (h : Dm n c M) {i j r s : Nat} (x : Int) (hr : r < n) (hs : s < c) : en (Go.Rk.setE M i j x) r s = if i = r ∧ j = s then x else en M r s := by
  rw [en_setE, h.1, h.2 r hr]
  by_cases e : i = r ∧ j = s
  · rw [if_pos ⟨e.1, e.2, hr, hs⟩, if_pos e]
  · rw [if_neg fun e2 => e ⟨e2.1, e2.2.1⟩, if_neg e]
theorem Dm.ext {n c : Nat} {M N : List (List Int)} (h : Dm n c M) (h' : Dm n c N) (e : ∀ i j, i < n → j < c → en M i j = en N i j) : M = N :=
  en_ext (h.1.trans h'.1.symm) (fun k hk => by rw [h.2 k (by rw [← h.1]; exact hk), h'.2 k (by rw [← h.1]; exact hk)]) fun i j hi hj => e i j (by rw [← h.1]; exact hi) (by rw [← h.2 i (by rw [← h.1]; exact hi)]; exact hj)
theorem Dm.replicate (n c : Nat) (x : Int) : Dm n c (List.replicate n (List.replicate c x)) :=
  ⟨by simp, fun i hi => by rw [rowOf_lt (by simp; exact hi)]; simp⟩
theorem IsR.congr {n c : Nat} {M : List (List Int)} {F G : Nat → Nat → Int} (h : IsR n c M F) (e : ∀ i j, i < n → j < c → F i j = G i j) : IsR n c M G :=
  ⟨h.1, fun i j hi hj => by rw [h.2 i j hi hj, e i j hi hj]⟩

theorem locs_mem {n c i j : Nat} (hi : i < n) (hj : j < c) : (i, j) ∈ locs c (n * c) := by
  have h1 : (i * c + j) / c = i := by rw [Nat.mul_comm, Nat.mul_add_div (by omega), Nat.div_eq_of_lt hj, Nat.add_zero]
  have h2 : (i * c + j) % c = j := by rw [Nat.mul_comm, Nat.mul_add_mod, Nat.mod_eq_of_lt hj]
  exact List.mem_map.2 ⟨i * c + j, List.mem_range.2 (place_lt hi hj), by rw [h1, h2]⟩
theorem plcs_in {n c : Nat} {ok : Nat → Nat → Int → Prop} {pre : List (Plc n c ok)} {p : Nat × Nat} (h : p ∈ plcs pre) : p.1 < n ∧ p.2 < c := by
  obtain ⟨x, _, rfl⟩ := List.mem_map.1 h
  exact ⟨x.2.1, x.2.2.1⟩
theorem locs_nodup (c k : Nat) : (locs c k).Nodup := by
  unfold locs List.Nodup
  rw [List.pairwise_map]
  refine List.Pairwise.imp ?_ List.nodup_range
  intro a b hab e
  injection e with e1 e2
  exact hab (by rw [← Nat.div_add_mod a c, ← Nat.div_add_mod b c, e1, e2])

section
variable {w w' : World} {B T E g : Nat} {D C : Nat → Nat} {n c cap : Nat} {M : List (List Int)} {row : Option Nat}

theorem alloc_keep {p : Addr} {v : Value} {o : Obj} (h : w.cell? p = some v) : (w.alloc o).cell? p = some v :=
  (((Below.refl w.heap.size w).alloc (Nat.le_refl _) o).cell (World.block_lt_of_cell? w p h)).trans h

theorem set_keep {p q : Addr} {v u : Value} (h : w.cell? p = some v) (hne : p.block ≠ q.block) : (w.setCell q u).cell? p = some v :=
  (World.cell?_setCell_other _ _ _ _ (fun e => hne (by rw [e]))).trans h

theorem set_keepS {p q : Addr} {x : Option Addr} {y z : Nat} {u : Int} {v : Value} (h : w.cell? p = some (.slice x y z)) (hq : w.cell? q = some (.int .i64 u)) : (w.setCell q v).cell? p = some (.slice x y z) :=
  (World.cell?_setCell_other _ _ _ _ (fun e => by rw [← e, hq] at h; cases h)).trans h
theorem keepsOthers_drewN (w : World) (q : Nat) : KeepsOthers w (w.drewN q) :=
  ⟨(below_drewN (Below.refl 0 w) q).size, fun k _ h _ => (below_drewN (Below.refl (k + 1) w) q).block k (by omega) |>.trans h⟩

theorem keepBox {v : Value} {t : TypeId} {G : Prop} (h : Below (w.alloc (.cells #[v] t)).drew.heap.size (w.alloc (.cells #[v] t)).drew w')
    (hG : w'.cell? ⟨w.heap.size, 0, none⟩ = some v → w'.frozen? ⟨w.heap.size, 0, none⟩ = false → w'.cell? ⟨w.drew.heap.size, 0, none⟩ = some v → w'.frozen? ⟨w.drew.heap.size, 0, none⟩ = false → G) : G := by
  have h1 := (h.cell (p := ⟨w.heap.size, 0, none⟩) (by simp)).trans (c := some v) (by simp)
  have h2 := (h.frozen (p := ⟨w.heap.size, 0, none⟩) (by simp)).trans (c := false) (by simp)
  exact hG h1 h2 h1 h2

theorem ownsRow_notCells {size k : Nat} {v : Value} {xs : List Value} (h : w.ownsRow B T size v k xs) (hr : ∀ r, row = some r → ∃ o : Obj, w.heap[r]? = some o ∧ o.isCells = false) : v.ownBlock = none ∨ v.ownBlock ≠ row := by
  rcases h.2 with ⟨rfl, _⟩ | ⟨g, c, cur, rfl, _, hg, _⟩
  · exact .inl rfl
  · refine .inr fun e => ?_
    obtain ⟨o, ho, hc⟩ := hr g (by rw [← e]; rfl)
    rw [hg] at ho
    cases ho
    cases hc

/-- What a value owns depends on its own block alone. -/
theorem ownsRow_same {size k : Nat} {v : Value} {xs : List Value} (h : w.ownsRow B T size v k xs) (hb : ∀ b, v.ownBlock = some b → w'.heap[b]? = w.heap[b]?) : w'.ownsRow B T size v k xs := by
  obtain ⟨h1, h2⟩ := h
  refine ⟨h1, ?_⟩
  rcases h2 with h2 | ⟨g, c, cur, hv, hB, hg, hr⟩
  · exact .inl h2
  · exact .inr ⟨g, c, cur, hv, hB, by rw [hb g (by rw [hv]; rfl)]; exact hg, hr⟩
/-- All is as it was but for the rows' own blocks. -/
def KeptBut (n : Nat) (D : Nat → Nat) (w w' : World) : Prop := w.heap.size ≤ w'.heap.size ∧ ∀ b, b < w.heap.size → (∀ i, i < n → b ≠ D i) → w'.heap[b]? = w.heap[b]?
theorem KeptBut.refl (n : Nat) (D : Nat → Nat) (w : World) : KeptBut n D w w := ⟨Nat.le_refl _, fun _ _ _ => rfl⟩
theorem KeptBut.set {D : Nat → Nat} {w w' : World} (h : KeptBut n D w w') {i j : Nat} (hi : i < n) (u : Value) : KeptBut n D w (w'.setCell ⟨D i, j, none⟩ u) :=
  ⟨Nat.le_trans h.1 (by simp), fun b hb hne => (Below.heap_setCell _ _ _ _ (fun e => hne i hi e)).trans (h.2 b hb hne)⟩
theorem KeptBut.drew {D : Nat → Nat} {w w' : World} (h : KeptBut n D w w') : KeptBut n D w w'.drew := ⟨h.1, h.2⟩
theorem OwI.keptBut {a : Option Addr} {m cap : Nat} {l : List Int} {D : Nat → Nat} (h : OwI w B E a m cap l) (hk : KeptBut n D w w') (hD : ∀ i, i < n → D i < B) : OwI w' B E a m cap l :=
  ⟨h.len_eq, ownsRow_same h.own fun b hb => by
    have := h.own.lt b hb
    exact hk.2 b this.2 fun i hi e => by have := hD i hi; omega⟩
theorem OwMD.grownPast (h : OwMD w B T E g D C n cap M) {b : Nat} (hg : w.grownBy w' row) (hr : ∀ r, row = some r → b ≤ r) (h1 : g < b) (h2 : ∀ i, i < n → D i < b) : OwMD w' B T E g D C n cap M :=
  ⟨h.len_eq, h.outer.kept hg (.inr fun e => by have := hr g e.symm; omega), fun i hi => (h.rows i hi).grown hg (.inr fun e => by have := hr (D i) e.symm; have := h2 i hi; omega), h.inj⟩

theorem OwMD.mono {B' : Nat} (h : OwMD w B T E g D C n cap M) (hb : B' ≤ B) : OwMD w B' T E g D C n cap M :=
  ⟨h.len_eq, h.outer.mono hb, fun i hi => (h.rows i hi).mono hb, h.inj⟩

theorem OwMD.passes (h : OwMD w B T E g D C n cap M) (hg : w.grownBy w' row) (hr : ∀ r, row = some r → ∃ o : Obj, w.heap[r]? = some o ∧ o.isCells = false) : OwMD w' B T E g D C n cap M :=
  ⟨h.len_eq, h.outer.kept hg (ownsRow_notCells h.outer hr), fun i hi => (h.rows i hi).grown hg (ownsRow_notCells (h.rows i hi).own hr), h.inj⟩

theorem OwMD.grid (h : OwMD w B T E g D C n cap M) (hd : Dm n c M) {ok : Nat → Nat → Int → Prop} (hok : ∀ i j, i < n → j < c → ok i j (en M i j)) : Grid n c g 0 D (fun _ => 0) C ok w :=
  ⟨fun k hk => by rw [Nat.zero_add, h.cellO hk, hd.2 k hk], fun k j hk hj => ⟨_, by rw [Nat.zero_add]; exact h.cellI hk (by rw [hd.2 k hk]; exact hj), hok k j hk hj⟩⟩

theorem RdM.grid {a : Option Addr} (h : RdM w a n cap M) (hd : Dm n c M) (hn : 0 < n) (hc : 0 < c) : ∃ b off D O C, a = some ⟨b, off, none⟩ ∧ b < w.heap.size ∧ (∀ k, k < n → D k < w.heap.size) ∧ Grid n c b off D O C (fun i j v => v = en M i j) w := by
  obtain ⟨b, off, ha, hb, hr⟩ := h.at hn
  have hr' : ∀ i, i < n → ∃ y : Nat × Nat × Nat, w.cell? ⟨b, off + i, none⟩ = some (.slice (some ⟨y.1, y.2.1, none⟩) c y.2.2) ∧ y.1 < w.heap.size ∧ ∀ j, j < c → w.cell? ⟨y.1, y.2.1 + j, none⟩ = some (.int .i64 (en M i j)) := by
    intro i hi
    obtain ⟨ar, cr, hcell, hrd⟩ := hr i hi
    rw [hd.2 i hi] at hcell hrd
    obtain ⟨p, o, rfl, hp, hx⟩ := hrd.at hc
    exact ⟨(p, o, cr), hcell, hp, hx⟩
  obtain ⟨y, hy⟩ := Go.Deep.choose_lt hr'
  exact ⟨b, off, fun i => (y i).1, fun i => (y i).2.1, fun i => (y i).2.2, ha, hb, fun k hk => (hy k hk).2.1, fun k hk => (hy k hk).1, fun k j hk hj => ⟨_, (hy k hk).2.2 j hj, rfl⟩⟩

variable {b off : Nat} {O : Nat → Nat} {ok : Nat → Nat → Int → Prop}
theorem Grid.fresh (h : Grid n c b off D O C ok w) (hk : Below w.heap.size w w') : Grid n c b off D O C ok w' :=
  ⟨fun k hk2 => (hk.cell (World.block_lt_of_cell? w _ (h.hdr k hk2))).trans (h.hdr k hk2), fun k j hk2 hj => let ⟨v, hv, ho⟩ := h.el k j hk2 hj; ⟨v, (hk.cell (World.block_lt_of_cell? w _ hv)).trans hv, ho⟩⟩
theorem Grid.passes (h : Grid n c b off D O C ok w) (hg : w.grownBy w' row) (hr : ∀ r, row = some r → ∃ o : Obj, w.heap[r]? = some o ∧ o.isCells = false) : Grid n c b off D O C ok w' :=
  ⟨fun k hk2 => cell_kept (h.hdr k hk2) hg hr, fun k j hk2 hj => let ⟨v, hv, ho⟩ := h.el k j hk2 hj; ⟨v, cell_kept hv hg hr, ho⟩⟩
/-- A number stored where a number lies. -/
theorem Grid.setInt (h : Grid n c b off D O C ok w) {p : Addr} {u x : Int} (hp : w.cell? p = some (.int .i64 u)) (hx : ∀ k j, k < n → j < c → ok k j x) : Grid n c b off D O C ok (w.setCell p (.int .i64 x)) := by
  refine ⟨fun k hk => ?_, fun k j hk hj => ?_⟩
  · rw [World.cell?_setCell_other _ _ _ _ (fun e => by have := h.hdr k hk; rw [← e, hp] at this; cases this)]
    exact h.hdr k hk
  · obtain ⟨v, hv, ho⟩ := h.el k j hk hj
    by_cases e : (⟨D k, O k + j, none⟩ : Addr) = p
    · subst e
      exact ⟨x, World.cell?_setCell_same _ _ _ hv, hx k j hk hj⟩
    · exact ⟨v, (World.cell?_setCell_other _ _ _ _ (Ne.symm e)).trans hv, ho⟩
end
end Go.Rk
namespace Go.Rk
open Go.RowKit

def noDefer (ops : Array Oper) : Bool := ops.all fun o => match o.op with | .defer _ => false | _ => true
theorem noDefer_at {ops : Array Oper} (h : noDefer ops = true) {i : Nat} {o : Oper} (ho : ops[i]? = some o) : ∀ c, o.op ≠ .defer c := by
  intro c e
  obtain ⟨hi, rfl⟩ := Array.getElem?_eq_some_iff.1 ho
  have := Array.all_eq_true.1 h i hi
  rw [e] at this
  cases this

section
variable {l n : Nat} {P : Program} {ops : Array Oper} {Q : Exit → Act → World → Prop} {md : Region.Mode}

theorem rowsIn_of {row : String} {args : Array Value} {w : World} {R : Value → World → Prop} (h : Rows P row args w R) : RowsIn (Fence.wide.inRound l) n P row args w R :=
  fun c cs _ => let ⟨v, w', r, s⟩ := h c cs; ⟨v, w', r, stepsIn_wide.2 s⟩

theorem op_round {o : Oper} {a : Act} {w : World} {K : Act → World → Prop} (hnd : ∀ c, o.op ≠ .defer c) (h : o.wp P a w K Q) : o.wpIn (Fence.wide.inRound l) n P a w K Q := by
  refine ⟨fun _ _ => trivial, ?_⟩
  rw [show (Fence.wide.inRound l).round = some l from rfl, Oper.semAt_some l _ _ hnd]
  unfold Oper.wp at h
  generalize (execOp a.eval o).run P w = r at h ⊢
  cases r with
  | ok x w' =>
    cases x <;> simp only [Oper.upon, Oper.uponIn] at h ⊢ <;>
      first
        | exact h
        | exact ⟨fun e => by simp [Fence.wide] at e, callsIn_wide.2 h⟩
        | exact ⟨fun e => by simp [Fence.wide] at e, rowsIn_of h⟩
  | halt x w' => cases x <;> simp only [Oper.upon, Oper.uponIn] at h ⊢ <;> exact h

theorem wpOp_round {i : Nat} {K K' : Act → World → Prop} {a : Act} {w : World} (hnd : noDefer ops = true) (hL : ¬ LetsOut Q) (hK : ∀ a w, K a w → K' a w) (h : wpOp P ops Q i K a w) : wpOpIn (Fence.wide.inRound l) n P ops Q i K' a w := by
  unfold wpOp at h
  unfold wpOpIn
  cases ho : ops[i]? with
  | none => rw [ho] at h; exact hK _ _ h
  | some o =>
    rw [ho] at h
    dsimp only at h ⊢
    split
    · next hw =>
      rw [if_pos hw] at h
      rcases h with h | h
      · exact op_round (noDefer_at hnd ho) (Oper.wp_mono hK h)
      · exact absurd h.2 hL
    · next hw =>
      rw [if_neg hw] at h
      exact ⟨fun _ _ => trivial, hK _ _ h⟩

theorem wpAny_round (hnd : noDefer ops = true) (hL : ¬ LetsOut Q) : ∀ (fuel : Nat) (listed : Array Bool) (a : Act) (w : World), wpAny P md ops Q fuel listed a w → wpAnyIn (Fence.wide.inRound l) n P md ops Q fuel listed a w
  | 0, _, _, _, h => h
  | fuel + 1, _, _, _, h => ⟨h.1, fun i hi => wpOp_round hnd hL (wpAny_round hnd hL fuel _) (h.2 i hi)⟩

theorem region_round {id : Nat} {a : Act} {w : World} (hm : P.follows .mixedOrders = true) (hnd : noDefer ops = true) (hL : ¬ LetsOut Q)
    (h : wpAny P .any ops Q ops.size (Array.replicate ops.size false) a { w with drawn := w.drawn + 1 }) : (Code.region id ops true).wpIn (Fence.wide.inRound l) n P Q a w :=
  wpIn_region_any hm (wpAny_round hnd hL _ _ _ _ h)

/-- A region of reads, arithmetic and quiet calls that draws its order, in a round. -/
theorem region_round_quiet {id : Nat} {a : Act} {w : World} {os : List Oper} (hm : P.follows .mixedOrders = true) (hnd : noDefer os.toArray = true) (hL : ¬ LetsOut Q) (hB : Region.lexB .any os.toArray = true)
    (h : wpQuiet P os.toArray (fun w' => ∃ k, w' = w.drewN k) (fun a' => ∀ w', (∃ k, w' = w.drewN k) → Q .normal a' w') os a) : (Code.region id os.toArray true).wpIn (Fence.wide.inRound l) n P Q a w := by
  obtain ⟨b1, b2⟩ : Region.noSelect os.toArray = true ∧ _ := by simpa only [Region.lexB, Bool.and_eq_true] using hB
  have q := wpAnyQ_lex (md := .any) b1 os 0 (Array.replicate os.toArray.size false) a (by simp) (by simpa using b2) h
  exact region_round hm hnd hL (wpAny_of_quiet (C := fun w' => ∃ k, w' = w.drewN k) (Q := fun a' => ∀ w', (∃ k, w' = w.drewN k) → Q .normal a' w') (fun _ w' hw' h => h w' hw') _ _ _ _ ⟨1, rfl⟩ (by simpa using q))

/-- The same, and at its end, in order, what writes. -/
theorem region_round_tail {id : Nat} {a : Act} {w : World} {os : List Oper} (m : Nat) (hm : P.follows .mixedOrders = true) (hnd : noDefer os.toArray = true) (hL : ¬ LetsOut Q) (hB : Region.lexTailB .any os.toArray m = true)
    (h : wpStill P os.toArray w.drew (fun a' => wpList P os.toArray Q (os.drop m) a' w.drew) (os.take m) a) : (Code.region id os.toArray true).wpIn (Fence.wide.inRound l) n P Q a w := by
  simp only [Region.lexTailB, Bool.and_eq_true, decide_eq_true_eq] at hB
  have t1 : (os.take m).length = m := by have := hB.1.1.1.2; simp at this ⊢; omega
  have t2 : (os.drop m).length = os.toArray.size - m := by simp
  have i0 : HeadInv .any os.toArray m (Array.replicate os.toArray.size false) :=
    ⟨by simp, fun j _ _ (e : _ = true) => (by rw [getD_replicate_false] at e; cases e), fun t _ ht => getD_in (by simpa using ht) (getD_replicate_false _ _)⟩
  have q := wpAnyL_lex (md := .any) (g := os.toArray.size - m) hB.1.1.1.1 hB.1.1.2 hB.1.2 hB.1.1.1.2 (os.take m) 0 _ a (fun j hj => by rw [t1] at hj; simp [hj]) (by simpa using t1) i0 (by rw [t1]; exact hB.2) h
  have q2 := wpAny_of_head (Q' := Q) (g := os.toArray.size - m) (fun listed a' e => by
    have := wpAny_of_seq (md := .any) (Q' := Q) (os.drop m) m listed a' w.drew (fun j => by simp [List.getElem?_drop]) (by rw [t2]; exact e.1) e.2
    rwa [t2] at this) _ _ _ q
  rw [t1, show m + (os.toArray.size - m) = os.toArray.size by have := hB.1.1.1.2; omega] at q2
  exact region_round hm hnd hL q2

end
end Go.Rk

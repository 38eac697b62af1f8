/-
  The walk of det.Sign: an order's sign, by its cycles.
  The closed fact of the statements on determinants.
  When nothing is wrong with a matrix; determinants of matrices with a row changed, modulo 9973. Plain Lean on the words of the walks.
-/
import Derived.Test.YtkielldinghmbaaDoorRows
import Derived.Test.YtkielldinghmbaaDoorMgInvBackF0
import Derived.Test.YtkielldinghmbaaDoorMgInvBackF2
import Derived.Test.YtkielldinghmbaaDoorMgInvBackF3
import Derived.Test.YtkielldinghmbaaDoorMgInvBackF7
import Derived.Test.YtkielldinghmbaaDoorMgInvBackF8
namespace Go.Rk
open Go.RowKit

def bx (l : List Bool) (k : Nat) : Bool := l.getD k false
theorem bx_set (l : List Bool) (k j : Nat) (x : Bool) : bx (l.set k x) j = if k = j ∧ j < l.length then x else bx l j := by
  simp only [bx, List.getD, List.getElem?_set]
  by_cases h1 : k = j
  · subst h1
    by_cases h2 : k < l.length <;> simp [h2]
  · simp [h1]

/-- A slice of bools of the call's own. -/
structure OwB (w : World) (B E : Nat) (a : Option Addr) (n cap : Nat) (l : List Bool) : Prop where
  len_eq : l.length = n
  own : w.ownsRow B E 1 (.slice a n cap) n (l.map Value.bool)

structure BoolTy (P : Program) (T E : TypeId) : Prop where
  ht : P.underlying T = some (.slice E)
  hi : ∃ i, P.info? E = some i ∧ i.zero = some (.bool false) ∧ i.size = 1 ∧ i.bytes = 1

section
variable {w w' : World} {B E : Nat} {a : Option Addr} {n cap : Nat} {l : List Bool}
theorem OwB.at (h : OwB w B E a n cap l) (hn : 0 < n) :
    ∃ g, a = some ⟨g, 0, none⟩ ∧ B ≤ g ∧ g < w.heap.size ∧ (∀ i, i < n → w.cell? ⟨g, i, none⟩ = some (.bool (bx l i))) ∧ ∀ i, w.frozen? ⟨g, i, none⟩ = false := by
  obtain ⟨g, c, hv, hb, hlt⟩ := h.own.form hn
  injection hv with ha _ hc
  subst ha; subst hc
  refine ⟨g, rfl, hb, hlt, fun i hi => ?_, fun i => h.own.frozenAt i⟩
  rw [h.own.cellAt i (by omega), List.getElem?_map, List.getElem?_eq_getElem (by rw [h.len_eq]; exact hi)]
  simp [bx, List.getD, h.len_eq, hi]
theorem OwB.below (h : OwB w B E a n cap l) (hb : Below w.heap.size w w') : OwB w' B E a n cap l :=
  ⟨h.len_eq, h.own.kept (row := none) ⟨hb.os, hb.tape, hb.output, hb.size, fun k hk _ => hb.block k hk⟩ (by cases (Value.slice a n cap).ownBlock <;> simp)⟩
theorem OwB.set {g k : Nat} (h : OwB w B E (some ⟨g, 0, none⟩) n cap l) (x : Bool) : OwB (w.setCell ⟨g, k, none⟩ (.bool x)) B E (some ⟨g, 0, none⟩) n cap (l.set k x) :=
  ⟨by rw [List.length_set]; exact h.len_eq, by rw [List.map_set]; exact (h.own.stored k _).1⟩
end

theorem wpList_make_bools {P : Program} {T E : TypeId} {w : World} (hT : BoolTy P T E) {ops : Array Oper} {rest : List Oper} {o : Oper} {ac : Act} {Q : Exit → Act → World → Prop} (hgd : o.guard = none) (x y : Operand) (ho : o.op = .makeSlice T x y)
    {n : Nat} (hx : ac.eval x = .int .i64 n) (hy : ac.eval y = .int .i64 n) (hn : n ≤ 1000000)
    (h : ∀ w', OwB w' w.heap.size E (some ⟨w.heap.size, 0, none⟩) n n (List.replicate n false) → Below w.heap.size w w' → wpList P ops Q rest (ac.put o.dst (.slice (some ⟨w.heap.size, 0, none⟩) n n)) w') : wpList P ops Q (o :: rest) ac w := by
  obtain ⟨i, hi, hz, hs, hby⟩ := hT.hi
  refine wpList_make_full w hgd x y T ho w.heap.size E i (.bool false) 1 hT.ht hi hz hs .i64 .i64 n n n hx hy rfl rfl (by rw [hby]; omega) (by unfold maxLen; omega) (Nat.le_refl _) fun w' h1 h2 => h w' ⟨by simp, ?_⟩ (below_of_grown h2)
  have : (madeCells (Value.bool false).cells (n * 1)).toList = (List.replicate n false).map Value.bool := by
    rw [Nat.mul_one, List.map_replicate]
    exact toList_madeCells_one _ n
  rw [this] at h1
  exact h1

/-- Which numbers have been met in the first k places. -/
def metN (l : List Int) (n : Nat) : Nat → List Bool
  | 0 => List.replicate n false
  | k + 1 => (metN l n k).set (ix l k).toNat true
/-- Nothing is wrong in the first k places: each number a place, none of them twice. -/
def okN (l : List Int) (n : Nat) : Nat → Bool
  | 0 => true
  | k + 1 => okN l n k && !(decide (ix l k < 0) || decide ((n : Int) - 1 < ix l k)) && !bx (metN l n k) (ix l k).toNat

theorem metN_len (l : List Int) (n k : Nat) : (metN l n k).length = n := by
  induction k with
  | zero => simp [metN]
  | succ k ih => simp [metN, ih]

theorem okN_le {l : List Int} {n : Nat} : ∀ {k}, okN l n k = true → ∀ j, j < k → 0 ≤ ix l j ∧ ix l j ≤ (n : Int) - 1 := by
  intro k
  induction k with
  | zero => intro _ j hj; omega
  | succ k ih =>
    intro h j hj
    simp only [okN, Bool.and_eq_true, Bool.not_eq_true', Bool.or_eq_false_iff, decide_eq_false_iff_not] at h
    rcases Nat.lt_or_ge j k with h1 | h1
    · exact ih h.1.1 j h1
    · obtain rfl : j = k := by omega
      omega

theorem okN_false {l : List Int} {n k m : Nat} (h : okN l n k = false) (hkm : k ≤ m) : okN l n m = false := by
  induction m with
  | zero => obtain rfl : k = 0 := by omega
            exact h
  | succ m ih =>
    rcases Nat.lt_or_ge m k with h1 | h1
    · obtain rfl : k = m + 1 := by omega
      exact h
    · rw [okN, ih h1]; rfl

/-- One cycle from k on: what has been done, and how long it is. -/
def cycF (l : List Int) : Nat → List Bool → Nat → Nat → List Bool × Nat
  | 0, d, _, g => (d, g)
  | f + 1, d, k, g => if bx d k then (d, g) else cycF l f (d.set k true) (ix l k).toNat (g + 1)
def cycN (l : List Int) (n : Nat) : Nat → List Bool × Int
  | 0 => (List.replicate n false, 1)
  | i + 1 => ((cycF l (n + 1) (cycN l n i).1 i 0).1, if 0 < (cycF l (n + 1) (cycN l n i).1 i 0).2 ∧ (cycF l (n + 1) (cycN l n i).1 i 0).2 % 2 = 0 then -(cycN l n i).2 else (cycN l n i).2)
/-- An order's sign. -/
def signC (l : List Int) : Int := if okN l l.length l.length then (cycN l l.length l.length).2 else 0

def cntF (d : List Bool) : Nat := (d.filter fun b => !b).length
theorem cntF_set {d : List Bool} {k : Nat} (hk : k < d.length) (h : bx d k = false) : cntF (d.set k true) + 1 = cntF d := by
  induction d generalizing k with
  | nil => simp at hk
  | cons x d ih =>
    cases k with
    | zero =>
      have : x = false := by simpa [bx] using h
      subst this
      simp [cntF]
    | succ k =>
      have h2 : bx d k = false := by simpa [bx] using h
      have := ih (by simpa using hk) h2
      simp only [cntF, List.set_cons_succ, List.filter_cons] at *
      cases x <;> simp <;> omega
theorem cntF_le (d : List Bool) : cntF d ≤ d.length := List.length_filter_le _ _

theorem cycF_len (l : List Int) : ∀ (f : Nat) (d : List Bool) (k g : Nat), (cycF l f d k g).1.length = d.length ∧ (cycF l f d k g).2 ≤ g + f := by
  intro f
  induction f with
  | zero => intro d k g; exact ⟨rfl, Nat.le_refl _⟩
  | succ f ih =>
    intro d k g
    rw [cycF]
    split
    · exact ⟨rfl, by omega⟩
    · have := ih (d.set k true) (ix l k).toNat (g + 1)
      simp only [List.length_set] at this
      omega

theorem cycN_len (l : List Int) (n i : Nat) : (cycN l n i).1.length = n ∧ ((cycN l n i).2 = 1 ∨ (cycN l n i).2 = -1) := by
  induction i with
  | zero => simp [cycN]
  | succ i ih =>
    simp only [cycN]
    refine ⟨by rw [(cycF_len l _ _ _ _).1, ih.1], ?_⟩
    split <;> omega
end Go.Rk
namespace Go.Proofs.YtkielldinghmbaaDoor
open Go.RowKit Go.Rk

theorem infoBool : (Tryd.prog.info? 4).map (fun i => (i.zero, i.size, i.bytes)) = some (some (.bool false), 1, 1) := by kernel_rfl
theorem boolTy : BoolTy Tryd.prog 80 4 := by
  obtain ⟨i0, hi, h0, h1, h2⟩ := info_parts infoBool
  exact ⟨Tryd.underlying80, ⟨i0, hi, h0, h1, h2⟩⟩

set_option maxHeartbeats 2000000 in
theorem Sign_any {a : Option Addr} {n cap : Nat} {l : List Int} {w : World} (h : RdI w a n cap l) (hn : n ≤ 1000) :
    Calls Tryd.prog 40 #[.slice a n cap] w fun e w' => e = .returned (.int .i64 (signC l)) ∧ Below w.heap.size w w' := by
  have E1 := Lib.hid h.len_eq
  have HB := Lib.hid boolTy
  have hb0 : Below w.heap.size w w := Below.refl _ _
  go_enter Tryd.func40, Tryd.ntmps40
  go_wp2_with (at_make; refine wpList_make_bools HB.out rfl (.tmp 12) (.tmp 12) rfl rfl rfl (by omega) ?_; intro w1 ho1 hb1)
  go_loopw [16] (fun i wr => ∃ k : Nat, k ≤ n ∧ i = .int .i64 k ∧ Hid (okN l n k = true) ∧ OwB wr w.heap.size 4 (some ⟨w.heap.size, 0, none⟩) n n (metN l n k) ∧ Below w.heap.size w wr) (fun i _ => n - (intOf i).toNat)
  case atStart => exact ⟨0, Nat.zero_le _, rfl, rfl, ho1, hb1⟩
  case round =>
    obtain ⟨k, hk, rfl, hok, ho, hb⟩ := hrel
    by_cases hlt : k < n
    · obtain ⟨b, off, rfl, hbl, hc⟩ := h.at hlt
      have hc := hb.keep hbl (hc k hlt)
      rcases hout : outB (ix l k) 0 ((n : Int) - 1)
      · have hr : 0 ≤ ix l k ∧ ix l k ≤ (n : Int) - 1 := by unfold outB at hout; simp at hout; omega
        obtain ⟨v, hv⟩ := Int.eq_ofNat_of_zero_le hr.1
        have hvn : v < n := by omega
        obtain ⟨g, hg, _, _, hcell, hfz⟩ := ho.at (by omega)
        injection hg with hg
        injection hg with hg
        subst hg
        have hc2 := hcell v hvn
        have hf := hfz v
        have HO := Lib.hid hout
        have HV := Lib.hid hv
        have HOv : Hid (outB (v : Int) 0 ((n : Int) - 1) = false) := by unfold Hid; rw [← hv]; exact hout
        rw [hv] at hc
        clear hout hv hr hcell hfz
        rcases hs : bx (metN l n k) v
        · rw [hs] at hc2
          have HS := Lib.hid hs
          clear hs
          go_wp2_with (go_at_call 70; refine (out_any _ _ _ _).mono ?_; rintro e w' ⟨rfl, rfl⟩; rw [HOv.out])
          go_roundw
          case rel =>
            refine ⟨k + 1, by omega, by go_num, ?_, ?_, hb.setCell (Nat.le_refl _) _⟩
            · unfold Hid
              have e1 := HO.out
              unfold outB at e1
              rw [okN, hok.out, e1, HV.out, Int.toNat_natCast, HS.out]; rfl
            · rw [metN, HV.out, Int.toNat_natCast]; exact ho.set true
          case measure => simp [intOf]; omega
        · rw [hs] at hc2
          have HS := Lib.hid hs
          clear hs
          go_wp2_with (go_at_call 70; refine (out_any _ _ _ _).mono ?_; rintro e w' ⟨rfl, rfl⟩; rw [HOv.out])
          go_ret
          refine ⟨ret_int ?_, hb⟩
          unfold signC
          rw [if_neg]
          rw [E1.out, okN_false (k := k + 1) (by rw [okN, HV.out, Int.toNat_natCast, HS.out]; simp) (by omega)]
          simp
      · have HO := Lib.hid hout
        clear hout
        go_wp2_with (go_at_call 70; refine (out_any _ _ _ _).mono ?_; rintro e w' ⟨rfl, rfl⟩; rw [HO.out])
        go_ret
        refine ⟨ret_int ?_, hb⟩
        unfold signC
        have e1 := HO.out
        unfold outB at e1
        rw [if_neg]
        rw [E1.out, okN_false (k := k + 1) (by rw [okN, e1]; simp) (by omega)]
        simp
    · obtain rfl : k = n := by omega
      have hin := Lib.hid (okN_le hok.out)
      go_wp2_with (at_make; refine wpList_make_bools HB.out rfl (.tmp 36) (.tmp 36) rfl rfl rfl (by omega) ?_; intro w2 ho2 hb2)
      have hb3 := hb.trans (hb2.mono hb.size)
      have hs0 := hb.size
      clear ho ho1 hb1
      generalize wr.heap.size = N at *
      go_loopw [6, 40] (fun s i wr2 => ∃ i' : Nat, i' ≤ k ∧ i = .int .i64 i' ∧ s = .int .i64 (cycN l k i').2 ∧ OwB wr2 N 4 (some ⟨N, 0, none⟩) k k (cycN l k i').1 ∧ Below w.heap.size w wr2) (fun _ i _ => k - (intOf i).toNat)
      case atStart => exact ⟨0, Nat.zero_le _, rfl, rfl, ho2, hb3⟩
      case round =>
        obtain ⟨i', hi1, rfl, rfl, ho4, hb4⟩ := hrel
        by_cases hlt2 : i' < k
        · have hcl := (cycN_len l k i').2
          go_wp2
          go_loopw [9, 10] (fun lg kk wr3 => ∃ (g v f : Nat) (d : List Bool), kk = .int .i64 v ∧ lg = .int .i64 g ∧ v < k ∧ g ≤ k ∧ g + cntF d ≤ k ∧ cntF d < f ∧ Hid (cycF l f d v g = cycF l (k + 1) (cycN l k i').1 i' 0) ∧ OwB wr3 N 4 (some ⟨N, 0, none⟩) k k d ∧ Below w.heap.size w wr3) (fun lg _ _ => k + 1 - (intOf lg).toNat)
          case atStart => exact ⟨0, i', k + 1, _, rfl, rfl, hlt2, by omega, by have := cntF_le (cycN l k i').1; rw [(cycN_len l k i').1] at this; omega, by have := cntF_le (cycN l k i').1; rw [(cycN_len l k i').1] at this; omega, rfl, ho4, hb4⟩
          case round =>
            obtain ⟨g, v, f, d, rfl, rfl, hv, hg, hcg, hf, hcyc, ho5, hb5⟩ := hrel
            obtain ⟨f', rfl⟩ : ∃ f', f = f' + 1 := ⟨f - 1, by omega⟩
            obtain ⟨g0, hg0, _, _, hcell, hfz⟩ := ho5.at (by omega)
            injection hg0 with hg0
            injection hg0 with hg0
            subst hg0
            have hc2 := hcell v hv
            have hfv := hfz v
            obtain ⟨b, off, rfl, hbl, hc⟩ := h.at hv
            have hc := (hb5.setCell (p := ⟨N, v, none⟩) hs0 (.bool true)).keep hbl (hc v hv)
            have hcnt := cntF_le d
            rw [ho5.len_eq] at hcnt
            rcases hs : bx d v
            · rw [hs] at hc2
              have hin2 := hin.out v hv
              have hst := cntF_set (d := d) (k := v) (by rw [ho5.len_eq]; exact hv) hs
              have HS := Lib.hid hs
              clear hs hcell hfz
              have HST := Lib.hid hst
              clear hst
              obtain ⟨u, hu⟩ := Int.eq_ofNat_of_zero_le hin2.1
              rw [hu] at hc
              have hun : u < k := by omega
              have HU := Lib.hid hu
              clear hu hin2
              have hg2 : g < k := by have := HST.out; omega
              go_wp2
              go_roundw
              case rel => exact ⟨g + 1, u, f', d.set v true, rfl, by go_num, hun, by omega, by have := HST.out; omega, by have := HST.out; omega, by unfold Hid; rw [← hcyc.out, cycF, HS.out, HU.out]; rfl, ho5.set true, hb5.setCell hs0 _⟩
              case measure => simp [intOf]; omega
            · rw [hs] at hc2
              have HS := Lib.hid hs
              clear hs hcell hfz
              have HR : Hid (cycF l (k + 1) (cycN l k i').1 i' 0 = (d, g)) := by unfold Hid; rw [← hcyc.out, cycF, HS.out]; rfl
              by_cases he : 0 < g ∧ g % 2 = 0
              · have h2 : ((g : Int) % 2 == 0) = true := beq_iff_eq.2 (by omega)
                have h3 : (0 : Int) < (g : Int) := by omega
                have HE := Lib.hid he
                clear he
                go_wp2
                go_roundw
                case rel => exact ⟨i' + 1, by omega, by go_num, by rw [cycN, HR.out]; simp only []; rw [if_pos HE.out], by rw [cycN, HR.out]; exact ho5, hb5⟩
                case measure => simp [intOf]; omega
              · have HE := Lib.hid he
                by_cases h3 : 0 < g
                · have h2 : ((g : Int) % 2 == 0) = false := beq_eq_false_iff_ne.2 (by omega)
                  have h3' : (0 : Int) < (g : Int) := by omega
                  clear he
                  go_wp2
                  go_roundw
                  case rel => exact ⟨i' + 1, by omega, by go_num, by rw [cycN, HR.out]; simp only []; rw [if_neg HE.out], by rw [cycN, HR.out]; exact ho5, hb5⟩
                  case measure => simp [intOf]; omega
                · have h3' : ¬ (0 : Int) < (g : Int) := by omega
                  clear he
                  go_wp2
                  go_roundw
                  case rel => exact ⟨i' + 1, by omega, by go_num, by rw [cycN, HR.out]; simp only []; rw [if_neg HE.out], by rw [cycN, HR.out]; exact ho5, hb5⟩
                  case measure => simp [intOf]; omega
        · obtain rfl : i' = k := by omega
          go_wp2
          go_ret
          refine ⟨ret_int ?_, hb4⟩
          unfold signC
          rw [E1.out, if_pos hok.out]
end Go.Proofs.YtkielldinghmbaaDoor
namespace Go.Proofs.YtkielldinghmbaaDoor
open Go.RowKit Go.Rk

end Go.Proofs.YtkielldinghmbaaDoor
namespace Go.Proofs.YtkielldinghmbaaDoor
open Go.Rk

theorem rowsErr_of {lo hi : Int} {m : Nat} {M : List (List Int)} (h : ∀ l ∈ M, l.length = m ∧ anyB lo hi l = false) : rowsErr lo hi m M = none := by
  unfold rowsErr
  induction M with
  | nil => rfl
  | cons l M ih =>
    obtain ⟨h1, h2⟩ := h l (by simp)
    have e : rowErr1 lo hi m l = none := by unfold rowErr1; rw [if_neg (by simp [h1]), h2]; simp
    rw [List.foldl_cons]
    show List.foldl _ (rowErr1 lo hi m l) M = none
    rw [e]
    exact ih fun l' hl' => h l' (by simp [hl'])

theorem squareR_of {most lo hi : Int} {M : List (List Int)} {n : Nat} (h1 : 1 ≤ n) (h2 : (n : Int) ≤ most) (hd : Dim n M) (he : Ent lo hi n M) : squareR most lo hi M = none := by
  have hr0 := hd.2 0 (by omega)
  have hg : groundsR most lo hi M = none := by
    unfold groundsR
    rw [if_neg (by rw [hd.1, hr0]; omega), if_neg (by rw [hd.1, hr0]; omega)]
    refine rowsErr_of fun l hl => ?_
    obtain ⟨k, hk, rfl⟩ := List.mem_iff_getElem.1 hl
    rw [← rowOf_lt hk, hr0]
    rw [hd.1] at hk
    refine ⟨hd.2 k hk, any_of_in fun j hj => ?_⟩
    rw [hd.2 k hk] at hj
    exact he k j hk hj
  unfold squareR
  rw [if_pos hg, if_pos (by rw [hd.1, hr0])]

theorem en_set {M : List (List Int)} {n i : Nat} (hd : Dim n M) (hi : i < n) (l : List Int) (r s : Nat) : en (M.set i l) r s = if r = i then ix l s else en M r s := by
  unfold en
  rw [rowOf_set]
  by_cases h : i = r
  · rw [if_pos ⟨h, by rw [← h, hd.1]; exact hi⟩, if_pos h.symm]
  · rw [if_neg fun e => h e.1, if_neg fun e => h e.symm]

theorem Dim.set {M : List (List Int)} {n i : Nat} (hd : Dim n M) {l : List Int} (hl : l.length = n) : Dim n (M.set i l) := by
  refine ⟨by rw [List.length_set]; exact hd.1, fun r hr => ?_⟩
  rw [rowOf_set]
  split
  · exact hl
  · exact hd.2 r hr

theorem Ent.setL {lo hi : Int} {M : List (List Int)} {n i : Nat} (hd : Dim n M) (he : Ent lo hi n M) (hi' : i < n) {l : List Int} (hl : l.length = n) (hln : In lo hi l) : Ent lo hi n (M.set i l) := by
  intro r s hr hs
  rw [en_set hd hi']
  split
  · exact hln s (by rw [hl]; exact hs)
  · exact he r s hr hs

theorem det_set {n : Nat} {M : List (List Int)} (hd : Dim n M) {i : Nat} (hi : i < n) (l : List Int) : det n (mx (M.set i l)) = det n (setRow (mx M) i (ix l)) :=
  det_congr fun r s _ _ => by
    show en (M.set i l) r s = _
    rw [en_set hd hi]
    rfl

theorem det_row_sum {n : Nat} {M B : List (List Int)} (hd : Dim n M) {i : Nat} (hi : i < n) (l : List Int) (hB : Is n B (fun r s => if r = i then (en M i s + ix l s) % 9973 else en M r s)) :
    det n (mx B) % 9973 = (det n (mx M) % 9973 + det n (mx (M.set i l)) % 9973) % 9973 := by
  have h1 : Eqm (det n (mx B)) (det n (setRow (mx M) i fun c => mx M i c + ix l c)) := det_eqm fun r s hr hs => by
    show Eqm (en B r s) _
    rw [hB.2 r s hr hs]
    simp only [setRow]
    by_cases h : r = i
    · rw [if_pos h, if_pos h]; exact Eqm.mod _
    · rw [if_neg h, if_neg h]; exact Eqm.refl _
  rw [det_row_add _ _ hi, Go.Rk.setRow_self, ← det_set hd hi] at h1
  have h2 := (Eqm.mod (det n (mx M))).add (Eqm.mod (det n (mx (M.set i l))))
  unfold Eqm at h1 h2
  omega

/-- Two rows exchanged. -/
theorem det_exch {n : Nat} {M : List (List Int)} (hd : Dim n M) {i j : Nat} (hij : i ≠ j) (hi : i < n) (hj : j < n) :
    det n (mx ((M.set i (rowOf M j)).set j (rowOf M i))) % 9973 = (-(det n (mx M) % 9973)) % 9973 := by
  have h1 : det n (mx ((M.set i (rowOf M j)).set j (rowOf M i))) = -det n (mx M) := by
    rw [← (det_alt n).swap (mx M) hij hi hj]
    refine det_congr fun r s _ _ => ?_
    show en (swapL M i j) r s = _
    rw [en_swapL hd hi hj]
    simp only [swapM, Go.Rk.setRow]
    rfl
  rw [h1]
  omega

/-- So many times one row added to another one. -/
theorem det_added {n : Nat} {M B : List (List Int)} {i j : Nat} (hij : i ≠ j) (hi : i < n) (hj : j < n) (k : Int) (hB : Is n B (fun r s => if r = i then (en M i s + k * en M j s) % 9973 else en M r s)) :
    det n (mx B) % 9973 = det n (mx M) % 9973 := by
  have h1 : Eqm (det n (mx B)) (det n (Go.Rk.setRow (mx M) i fun c => mx M i c + k * mx M j c)) := det_eqm fun r s hr hs => by
    show Eqm (en B r s) _
    rw [hB.2 r s hr hs]
    simp only [Go.Rk.setRow]
    by_cases h : r = i
    · rw [if_pos h, if_pos h]; exact Eqm.mod _
    · rw [if_neg h, if_neg h]; exact Eqm.refl _
  rw [(det_alt n).add_row (mx M) hij hi hj] at h1
  exact h1

/-- One row so many times. -/
theorem det_scaled {n : Nat} {M B : List (List Int)} {i : Nat} (hi : i < n) (k : Int) (hB : Is n B (fun r s => if r = i then (k * en M i s) % 9973 else en M r s)) :
    det n (mx B) % 9973 = (k * (det n (mx M) % 9973)) % 9973 := by
  have h1 : Eqm (det n (mx B)) (det n (Go.Rk.setRow (mx M) i fun c => k * mx M i c)) := det_eqm fun r s hr hs => by
    show Eqm (en B r s) _
    rw [hB.2 r s hr hs]
    simp only [Go.Rk.setRow]
    by_cases h : r = i
    · rw [if_pos h, if_pos h]; exact Eqm.mod _
    · rw [if_neg h, if_neg h]; exact Eqm.refl _
  rw [det_row_mul _ _ hi, Go.Rk.setRow_self] at h1
  exact h1.trans ((Eqm.refl k).mul (Eqm.mod _).symm)
end Go.Proofs.YtkielldinghmbaaDoor

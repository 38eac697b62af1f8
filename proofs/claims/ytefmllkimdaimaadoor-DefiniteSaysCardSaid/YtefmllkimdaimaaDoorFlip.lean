/-
  The reference's Flip walked: rows as columns.
-/
import Derived.Test.YtefmllkimdaimaaDoorRows
import Derived.Test.YtefmllkimdaimaaDoorLib
import Derived.Test.YtefmllkimdaimaaDoorNum
import Derived.Test.YtefmllkimdaimaaDoorMat
import Derived.Test.YtefmllkimdaimaaDoorRect
import Derived.Test.YtefmllkimdaimaaDoorRowsF
import Derived.Test.YtefmllkimdaimaaDoorRef
namespace Go.Proofs.YtefmllkimdaimaaDoor
open Go.RowKit Go.Rk

/-- Rows as columns. -/
def flipL (M : List (List Int)) (n c : Nat) : List (List Int) := rowsF (fun j i => en M i j) n c
theorem flipL_is (M : List (List Int)) (n c : Nat) : IsR c n (flipL M n c) (fun j i => en M i j) := rowsF_is _ _ _
theorem flipL_ent {lo hi : Int} {M : List (List Int)} {n c : Nat} (h : EntR lo hi n c M) : EntR lo hi c n (flipL M n c) := fun i j hi hj => by
  rw [(flipL_is M n c).2 i j hi hj]; exact h j i hj hi

set_option maxHeartbeats 2000000 in
set_option maxRecDepth 100000 in
theorem R_Flip_any {a : Option Addr} {n c cap : Nat} {M : List (List Int)} {w : World} (h : RdM w a n cap M) (d : Dm n c M) (h1 : 1 ≤ n) (hn : n ≤ 1000) (hc : c ≤ 1000) :
    Calls Tryd.prog 86 #[.slice a n cap] w fun e w' => ∃ a' c', e = .returned (.slice a' c c') ∧ OwM w' w.heap.size 22 3 a' c c' (flipL M n c) ∧ Below w.heap.size w w' := by
  have HM := Lib.hid matTy
  have HD := Lib.hid d
  obtain ⟨b, off, rfl, hbl, hr⟩ := h.at (k := 0) (by omega)
  have HR : Hid (∀ k, k < n → ∃ ar cr, w.cell? ⟨b, off + k, none⟩ = some (.slice ar c cr) ∧ RdI w ar c cr (rowOf M k)) := fun k hk => by
    obtain ⟨ar, cr, e1, e2⟩ := hr k hk
    rw [d.2 k hk] at e1 e2
    exact ⟨ar, cr, e1, e2⟩
  obtain ⟨a0, c0, y0, _⟩ := HR.out 0 (by omega)
  rw [Nat.add_zero] at y0
  have b1 : (0 : Int) < (n : Int) := by omega
  have b2 : (1 : Int) ≤ (n : Int) := by omega
  clear hr d
  go_enter Tryd.func86, Tryd.ntmps86
  go_wp2
  go_loopw [3, 4] (fun v x wr => ∃ (j : Nat) (q : Option Addr) (cq : Nat), j ≤ c ∧ x = .int .i64 j ∧ v = .slice q j cq ∧ OwM wr w.heap.size 22 3 q j cq (rowsF (fun j i => en M i j) n j) ∧ Below w.heap.size w wr) (fun _ x _ => c - (intOf x).toNat)
  case atStart => exact ⟨0, none, 0, Nat.zero_le _, rfl, rfl, OwM.nil _ _ _ _, Below.refl _ _⟩
  case round =>
    obtain ⟨j, q, cq, hj, rfl, rfl, ho, hb⟩ := hrel
    obtain ⟨wo, rfl⟩ : ∃ x, x = wr := ⟨_, rfl⟩
    have y0 := hb.keep hbl y0
    have hsz := hb.size
    by_cases hjc : j < c
    · have i1 : (j : Int) < (c : Int) := by omega
      go_wp2
      go_loopw [5, 6] (fun v x wt => ∃ (i : Nat) (p : Option Addr) (cp : Nat), i ≤ n ∧ x = .int .i64 i ∧ v = .slice p i cp ∧ OwI wt wo.heap.size 3 p i cp (rowF (fun i => en M i j) i) ∧ Below wo.heap.size wo wt) (fun _ x _ => n - (intOf x).toNat)
      case atStart => exact ⟨0, none, 0, Nat.zero_le _, rfl, rfl, OwI.nil _ _ _, Below.refl _ _⟩
      case round =>
        obtain ⟨i, p, cp, hi, rfl, rfl, hp, hbt⟩ := hrel
        by_cases hin : i < n
        · have i2 : (i : Int) < (n : Int) := by omega
          have kt := hb.trans (hbt.mono hsz)
          obtain ⟨ar, cr, e1, e2⟩ := HR.out i hin
          have y1 := kt.keep hbl e1
          obtain ⟨pr, orr, rfl, hprl, hcc⟩ := e2.at hjc
          have y2 : wr.cell? ⟨pr, orr + j, none⟩ = some (.int .i64 (en M i j)) := kt.keep hprl (hcc j hjc)
          have hs1 := hbt.size
          clear e1 e2 hcc
          go_wp2_with (first | (at_builtin; refine wpList_push_int HM.out.int rfl (.tmp 21) (.tmp 29) rfl rfl rfl (hp.alloc _) (z := en M i j) (by simp) (by decide) (by decide) (by omega) (by simp; omega) ?_; intro a4 c4 w4 ho4 hg4))
          have hb4 := below_grown (hbt.alloc hbt.size (.cells #[.int .i64 (en M i j)] 3)) (hp.alloc _) (by simp; omega) hg4
          go_roundw
          case rel => exact ⟨i + 1, a4, c4, by omega, by go_num, rfl, by rw [rowF_succ]; exact ho4, hb4⟩
          case measure => simp [intOf]; omega
        · obtain rfl : n = i := by omega
          go_wp2_with (first | (at_builtin; refine wpList_push_row HM.out rfl (.tmp 31) (.tmp 33) rfl rfl rfl ho (hbt.alloc hbt.size _) (hp.alloc _) (by simp) (by omega) hsz ?_; intro a5 c5 w5 ho5 hb5))
          go_roundw
          case rel => exact ⟨j + 1, a5, c5, by omega, by go_num, rfl, by rw [rowsF_succ]; exact ho5, (hb.trans ((hbt.alloc hbt.size _).mono hsz)).trans (hb5.mono (Nat.le_refl _))⟩
          case measure => simp [intOf]; omega
    · obtain rfl : c = j := by omega
      go_wp2
      go_ret
      exact ⟨_, _, rfl, ho, hb⟩
end Go.Proofs.YtefmllkimdaimaaDoor

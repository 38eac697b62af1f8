/-
  plain.Told and the same package's Error, by errors.As.
-/
import Derived.Test.YtefmllkimdaimaaDoorRows
import Derived.Test.YtefmllkimdaimaaDoorLib
import Derived.Test.YtefmllkimdaimaaDoorNum
import Derived.Test.YtefmllkimdaimaaDoorErrAs
namespace Go.Proofs.YtefmllkimdaimaaDoor
open Go.RowKit Go.Rk

/-- The number of an error that is none, or a number. -/
theorem Told_any {x : Option Int} {w : World} (hg : ErrT w) : Calls Tryd.prog 73 #[errV x] w fun e w' => e = .returned (.int .i64 (x.getD 0)) ∧ Below w.heap.size w w' := by
  cases x with
  | none =>
    go_enter Tryd.func73, Tryd.ntmps73
    simp only [errV]
    go_wp2
    go_ret
    exact ⟨rfl, Below.refl _ _⟩
  | some c =>
    have hb := (Below.refl w.heap.size w).alloc (Nat.le_refl _) (.cells #[.int .i64 0] 75)
    have C := Lib.hid (as_hit c ⟨w.heap.size, 0, none⟩ (.int .i64 0) _ (hg.below hb) (by simp) (by simp))
    go_enter Tryd.func73, Tryd.ntmps73
    simp only [errV]
    go_wp2_with (first | (go_at_call 113; (with_reducible refine C.out.mono ?_); rintro e w' ⟨rfl, w2, hb2, hc2, rfl⟩; have hc3 := World.cell?_setCell_same w2 ⟨w.heap.size, 0, none⟩ (.int .i64 c) hc2))
    go_ret
    exact ⟨rfl, (hb.trans (hb2.mono hb.size)).setCell (p := ⟨w.heap.size, 0, none⟩) (Nat.le_refl _) _⟩

theorem E_Error_any {x : Option Int} {e : Int} {w : World} (hg : ErrT w) : Calls Tryd.prog 14 #[errV x, .int .i64 e] w fun ev w' => ev = .returned (.bool (x.getD 0 == e)) ∧ Below w.heap.size w w' := by
  have C := Lib.hid (Told_any (x := x) hg)
  go_enter Tryd.func14, Tryd.ntmps14
  go_wp2_with (first | (go_at_call 73; (with_reducible refine C.out.mono ?_); rintro e w' ⟨rfl, hb⟩))
  go_ret
  exact ⟨rfl, hb⟩
theorem rowErr1_nz {lo hi : Int} {c : Nat} {e : Int} {l : List Int} (h : rowErr1 lo hi c l = some e) : e ≠ 0 := by
  unfold rowErr1 at h
  split at h
  · cases h; decide
  · split at h
    · cases h; decide
    · cases h
theorem rowsErr_nz {lo hi : Int} {c : Nat} {e : Int} {M : List (List Int)} (h : rowsErr lo hi c M = some e) : e ≠ 0 := by
  have g : ∀ (M : List (List Int)) (o : Option Int), (∀ x, o = some x → x ≠ 0) → ∀ x, M.foldl (fun r l => match r with | none => rowErr1 lo hi c l | some c => some c) o = some x → x ≠ 0 := by
    intro M
    induction M with
    | nil => exact fun o ho x hx => ho x hx
    | cons r M ih =>
      intro o ho x hx
      refine ih _ (fun y hy => ?_) x hx
      cases o with
      | none => exact rowErr1_nz hy
      | some z => exact ho y hy
  exact g M none (fun x hx => by cases hx) e h
theorem groundsR_nz {most lo hi : Int} {M : List (List Int)} {e : Int} (h : groundsR most lo hi M = some e) : e ≠ 0 := by
  unfold groundsR at h
  split at h
  · cases h; decide
  · split at h
    · cases h; decide
    · exact rowsErr_nz h
theorem squareR_nz {most lo hi : Int} {M : List (List Int)} {e : Int} (h : squareR most lo hi M = some e) : e ≠ 0 := by
  unfold squareR at h
  split at h
  · split at h
    · cases h
    · cases h; decide
  · exact groundsR_nz h
/-- No error, a number; an error, a number; an error and its own number. -/
theorem E_nil {e : Int} {w : World} (hg : ErrT w) : Calls Tryd.prog 14 #[.nilIface, .int .i64 e] w fun ev w' => ev = .returned (.bool (0 == e)) ∧ Below w.heap.size w w' := E_Error_any (x := none) hg
theorem E_nil0 {w : World} (hg : ErrT w) : Calls Tryd.prog 14 #[.nilIface, .int .i64 0] w fun ev w' => ev = .returned (.bool true) ∧ Below w.heap.size w w' := E_Error_any (x := none) hg
theorem E_some {c e : Int} {w : World} (hg : ErrT w) : Calls Tryd.prog 14 #[.iface 75 (.int .i64 c), .int .i64 e] w fun ev w' => ev = .returned (.bool (c == e)) ∧ Below w.heap.size w w' := E_Error_any (x := some c) hg
theorem E_same {c : Int} {w : World} (hg : ErrT w) : Calls Tryd.prog 14 #[.iface 75 (.int .i64 c), .int .i64 c] w fun ev w' => ev = .returned (.bool true) ∧ Below w.heap.size w w' := by
  have := E_Error_any (x := some c) (e := c) hg
  rw [show ((some c).getD 0 == c) = true from beq_iff_eq.2 rfl] at this
  exact this
end Go.Proofs.YtefmllkimdaimaaDoor

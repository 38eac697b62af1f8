/-
  When nothing is wrong with a matrix; determinants of matrices with a row changed, modulo 9973. Plain Lean on the words of the walks.
-/
import Derived.Test.YtfocfgddlnjfmaaNum
import Derived.Test.YtfocfgddlnjfmaaElim
import Derived.Test.YtfocfgddlnjfmaaDetOf
namespace Go.Proofs.Ytfocfgddlnjfmaa
open Go.Rk

theorem rowsErr_of {lo hi : Int} {m : Nat} {M : List (List Int)} (h : ∀ l ∈ M, l.length = m ∧ anyB lo hi l = false) : rowsErr lo hi m M = none := by
  unfold rowsErr
  induction M with
  | nil => rfl
  | cons l M ih =>
    obtain ⟨h1, h2⟩ := h l (by simp)
    have e : rowErr1 lo hi m l = none := by unfold rowErr1; rw [if_neg (by simp [h1]), h2]; simp
    rw [List.foldl_cons]
    show List.foldl _ (rowErr1 lo hi m l) M = none
    rw [e]
    exact ih fun l' hl' => h l' (by simp [hl'])

theorem squareR_of {most lo hi : Int} {M : List (List Int)} {n : Nat} (h1 : 1 ≤ n) (h2 : (n : Int) ≤ most) (hd : Dim n M) (he : Ent lo hi n M) : squareR most lo hi M = none := by
  have hr0 := hd.2 0 (by omega)
  have hg : groundsR most lo hi M = none := by
    unfold groundsR
    rw [if_neg (by rw [hd.1, hr0]; omega), if_neg (by rw [hd.1, hr0]; omega)]
    refine rowsErr_of fun l hl => ?_
    obtain ⟨k, hk, rfl⟩ := List.mem_iff_getElem.1 hl
    rw [← rowOf_lt hk, hr0]
    rw [hd.1] at hk
    refine ⟨hd.2 k hk, any_of_in fun j hj => ?_⟩
    rw [hd.2 k hk] at hj
    exact he k j hk hj
  unfold squareR
  rw [if_pos hg, if_pos (by rw [hd.1, hr0])]

theorem en_set {M : List (List Int)} {n i : Nat} (hd : Dim n M) (hi : i < n) (l : List Int) (r s : Nat) : en (M.set i l) r s = if r = i then ix l s else en M r s := by
  unfold en
  rw [rowOf_set]
  by_cases h : i = r
  · rw [if_pos ⟨h, by rw [← h, hd.1]; exact hi⟩, if_pos h.symm]
  · rw [if_neg fun e => h e.1, if_neg fun e => h e.symm]

theorem Dim.set {M : List (List Int)} {n i : Nat} (hd : Dim n M) {l : List Int} (hl : l.length = n) : Dim n (M.set i l) := by
  refine ⟨by rw [List.length_set]; exact hd.1, fun r hr => ?_⟩
  rw [rowOf_set]
  split
  · exact hl
  · exact hd.2 r hr

theorem Ent.setL {lo hi : Int} {M : List (List Int)} {n i : Nat} (hd : Dim n M) (he : Ent lo hi n M) (hi' : i < n) {l : List Int} (hl : l.length = n) (hln : In lo hi l) : Ent lo hi n (M.set i l) := by
  intro r s hr hs
  rw [en_set hd hi']
  split
  · exact hln s (by rw [hl]; exact hs)
  · exact he r s hr hs

theorem det_set {n : Nat} {M : List (List Int)} (hd : Dim n M) {i : Nat} (hi : i < n) (l : List Int) : det n (mx (M.set i l)) = det n (setRow (mx M) i (ix l)) :=
  det_congr fun r s _ _ => by
    show en (M.set i l) r s = _
    rw [en_set hd hi]
    rfl

theorem det_row_sum {n : Nat} {M B : List (List Int)} (hd : Dim n M) {i : Nat} (hi : i < n) (l : List Int) (hB : Is n B (fun r s => if r = i then (en M i s + ix l s) % 9973 else en M r s)) :
    det n (mx B) % 9973 = (det n (mx M) % 9973 + det n (mx (M.set i l)) % 9973) % 9973 := by
  have h1 : Eqm (det n (mx B)) (det n (setRow (mx M) i fun c => mx M i c + ix l c)) := det_eqm fun r s hr hs => by
    show Eqm (en B r s) _
    rw [hB.2 r s hr hs]
    simp only [setRow]
    by_cases h : r = i
    · rw [if_pos h, if_pos h]; exact Eqm.mod _
    · rw [if_neg h, if_neg h]; exact Eqm.refl _
  rw [det_row_add _ _ hi, Go.Rk.setRow_self, ← det_set hd hi] at h1
  have h2 := (Eqm.mod (det n (mx M))).add (Eqm.mod (det n (mx (M.set i l))))
  unfold Eqm at h1 h2
  omega

/-- Two rows exchanged. -/
theorem det_exch {n : Nat} {M : List (List Int)} (hd : Dim n M) {i j : Nat} (hij : i ≠ j) (hi : i < n) (hj : j < n) :
    det n (mx ((M.set i (rowOf M j)).set j (rowOf M i))) % 9973 = (-(det n (mx M) % 9973)) % 9973 := by
  have h1 : det n (mx ((M.set i (rowOf M j)).set j (rowOf M i))) = -det n (mx M) := by
    rw [← (det_alt n).swap (mx M) hij hi hj]
    refine det_congr fun r s _ _ => ?_
    show en (swapL M i j) r s = _
    rw [en_swapL hd hi hj]
    simp only [swapM, Go.Rk.setRow]
    rfl
  rw [h1]
  omega

/-- So many times one row added to another one. -/
theorem det_added {n : Nat} {M B : List (List Int)} {i j : Nat} (hij : i ≠ j) (hi : i < n) (hj : j < n) (k : Int) (hB : Is n B (fun r s => if r = i then (en M i s + k * en M j s) % 9973 else en M r s)) :
    det n (mx B) % 9973 = det n (mx M) % 9973 := by
  have h1 : Eqm (det n (mx B)) (det n (Go.Rk.setRow (mx M) i fun c => mx M i c + k * mx M j c)) := det_eqm fun r s hr hs => by
    show Eqm (en B r s) _
    rw [hB.2 r s hr hs]
    simp only [Go.Rk.setRow]
    by_cases h : r = i
    · rw [if_pos h, if_pos h]; exact Eqm.mod _
    · rw [if_neg h, if_neg h]; exact Eqm.refl _
  rw [(det_alt n).add_row (mx M) hij hi hj] at h1
  exact h1

/-- One row so many times. -/
theorem det_scaled {n : Nat} {M B : List (List Int)} {i : Nat} (hi : i < n) (k : Int) (hB : Is n B (fun r s => if r = i then (k * en M i s) % 9973 else en M r s)) :
    det n (mx B) % 9973 = (k * (det n (mx M) % 9973)) % 9973 := by
  have h1 : Eqm (det n (mx B)) (det n (Go.Rk.setRow (mx M) i fun c => k * mx M i c)) := det_eqm fun r s hr hs => by
    show Eqm (en B r s) _
    rw [hB.2 r s hr hs]
    simp only [Go.Rk.setRow]
    by_cases h : r = i
    · rw [if_pos h, if_pos h]; exact Eqm.mod _
    · rw [if_neg h, if_neg h]; exact Eqm.refl _
  rw [det_row_mul _ _ hi, Go.Rk.setRow_self] at h1
  exact h1.trans ((Eqm.refl k).mul (Eqm.mod _).symm)
end Go.Proofs.Ytfocfgddlnjfmaa

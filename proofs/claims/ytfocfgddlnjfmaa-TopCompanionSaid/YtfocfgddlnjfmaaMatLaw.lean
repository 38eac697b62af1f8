/-
  What goes together, for the statements on matrices.
-/
import Derived.Test.YtfocfgddlnjfmaaRows
import Derived.Test.YtfocfgddlnjfmaaLib
import Derived.Test.YtfocfgddlnjfmaaMatBin
import Derived.Test.YtfocfgddlnjfmaaDetLaw
import Derived.Test.YtfocfgddlnjfmaaMx
namespace Go.Proofs.Ytfocfgddlnjfmaa
open Go.RowKit Go.Rk

theorem grounds_of {n c : Nat} {M : List (List Int)} (hn : 1 ≤ n ∧ n ≤ 5) (hc : 1 ≤ c ∧ c ≤ 5) (hd : Dm n c M) (he : EntR 0 9972 n c M) : groundsR 5 0 9972 M = none := by
  have hr0 := hd.2 0 (by omega)
  unfold groundsR
  rw [if_neg (by rw [hd.1, hr0]; omega), if_neg (by rw [hd.1, hr0]; omega)]
  refine rowsErr_of fun l hl => ?_
  obtain ⟨k, hk, rfl⟩ := List.mem_iff_getElem.1 hl
  rw [← rowOf_lt hk, hr0]
  rw [hd.1] at hk
  refine ⟨hd.2 k hk, any_of_in fun j hj => ?_⟩
  rw [hd.2 k hk] at hj
  exact he k j hk hj

theorem mulErr_of {A B : List (List Int)} (g1 : groundsR 5 0 9972 A = none) (g2 : groundsR 5 0 9972 B = none) (h : (rowOf A 0).length = B.length) : mulErr A B = none := by
  unfold mulErr
  rw [g1, g2]
  show (if _ then _ else _) = _
  rw [if_pos h]
theorem addErr_of {A B : List (List Int)} (g1 : groundsR 5 0 9972 A = none) (g2 : groundsR 5 0 9972 B = none) (h : A.length = B.length) (h2 : (rowOf A 0).length = (rowOf B 0).length) : addErr A B = none := by
  unfold addErr
  rw [g1, g2]
  show (if _ then _ else _) = _
  rw [if_pos ⟨h, h2⟩]

/-- A matrix that passes, of n rows of c numbers. -/
structure Good (n c : Nat) (M : List (List Int)) : Prop where
  n1 : 1 ≤ n ∧ n ≤ 5
  c1 : 1 ≤ c ∧ c ≤ 5
  dm : Dm n c M
  ent : EntR 0 9972 n c M
theorem Good.gr {n c : Nat} {M : List (List Int)} (h : Good n c M) : groundsR 5 0 9972 M = none := grounds_of h.n1 h.c1 h.dm h.ent
theorem Good.of {n : Nat} {M : List (List Int)} (e : M.length = n) (g : groundsR 5 0 9972 M = none) : Good n (rowOf M 0).length M :=
  let ⟨a, b, c, d⟩ := grounds_dm e g
  ⟨a, b, c, d⟩
theorem Good.r0 {n c : Nat} {M : List (List Int)} (h : Good n c M) : (rowOf M 0).length = c := h.dm.2 0 (by have := h.n1; omega)
theorem Good.mulOk {n k c : Nat} {A B : List (List Int)} (h : Good n k A) (g : Good k c B) : mulErr A B = none := mulErr_of h.gr g.gr (by rw [h.r0, g.dm.1])
theorem Good.addOk {n c : Nat} {A B : List (List Int)} (h : Good n c A) (g : Good n c B) : addErr A B = none := addErr_of h.gr g.gr (by rw [h.dm.1, g.dm.1]) (by rw [h.r0, g.r0])
/-- The product passes, and is the product by the prime. -/
theorem Good.prod {n k c : Nat} {A B P : List (List Int)} (h : Good n k A) (g : Good k c B) (hp : IsR n c P (fun i j => mulE A B k i j % 9973)) : Good n c P ∧ EqM n c (mx P) (mulM k (mx A) (mx B)) :=
  ⟨⟨h.n1, g.c1, hp.1, fun i j hi hj => by rw [hp.2 i j hi hj]; dsimp only; omega⟩, fun i j hi hj => by
    show Eqm (en P i j) _
    rw [hp.2 i j hi hj]
    exact Eqm.mod _⟩
theorem Good.sum {n c : Nat} {A B P : List (List Int)} (h : Good n c A) (_ : Good n c B) (hp : IsR n c P (fun i j => (en A i j + en B i j) % 9973)) : Good n c P ∧ EqM n c (mx P) (fun i j => mx A i j + mx B i j) :=
  ⟨⟨h.n1, h.c1, hp.1, fun i j hi hj => by rw [hp.2 i j hi hj]; dsimp only; omega⟩, fun i j hi hj => by
    show Eqm (en P i j) _
    rw [hp.2 i j hi hj]
    exact Eqm.mod _⟩
theorem Good.tr {n c : Nat} {A P : List (List Int)} (h : Good n c A) (hp : IsR c n P (fun i j => en A j i)) : Good c n P ∧ EqM c n (mx P) (trM (mx A)) :=
  ⟨⟨h.c1, h.n1, hp.1, fun i j hi hj => by rw [hp.2 i j hi hj]; exact h.ent j i hj hi⟩, fun i j hi hj => Eqm.of_eq (hp.2 i j hi hj)⟩
/-- Two that pass and are one by the prime are one. -/
theorem Good.same {n c : Nat} {A B : List (List Int)} (h : Good n c A) (g : Good n c B) (e : EqM n c (mx A) (mx B)) : A = B :=
  h.dm.ext g.dm fun i j hi hj => by
    have h1 := h.ent i j hi hj
    have h2 := g.ent i j hi hj
    have h3 : en A i j % 9973 = en B i j % 9973 := e i j hi hj
    omega
end Go.Proofs.Ytfocfgddlnjfmaa

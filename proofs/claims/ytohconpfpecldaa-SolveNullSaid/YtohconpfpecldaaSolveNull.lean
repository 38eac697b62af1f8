/-
  SolveNull walked: rank and nullity.
-/
import Derived.Test.YtohconpfpecldaaRows
import Derived.Test.YtohconpfpecldaaLib
import Derived.Test.YtohconpfpecldaaRef
import Derived.Test.YtohconpfpecldaaSolveFact
import Derived.Test.YtohconpfpecldaaSameSum
import Derived.Test.YtohconpfpecldaaDetMul
namespace Go.Proofs.Ytohconpfpecldaa
open Go.RowKit Go.Rk

/-- The rows of the null space have as many steps as rows. -/
theorem nul_rank {n c : Nat} {A : Mx} {P L P' : List (List Int)} {ps ps' : List Int} (_ : GInv n c A c P ps) (hN : Nul c c P ps L) (hL : GInv L.length c (mx L) c P' ps') : ps'.length = L.length := by
  have hle := hL.st.le
  rcases Nat.lt_or_ge ps'.length L.length with h | h
  · exfalso
    obtain ⟨X, Y, hx⟩ := hL.st.fac hL.back
    have e0 := det_narrow h X (fun k j => Y k (freeAt ps c j))
    have hf : ∀ t, t < L.length → t < (freeN ps c).length := fun t ht => by rw [← hN.len]; exact ht
    have e1 : Eqm (det L.length idM) (det L.length (mulM ps'.length X (fun k j => Y k (freeAt ps c j)))) := det_eqm fun i j hi1 hj => by
      have fj := freeAt_mem (hf j hj)
      have := hx i (freeAt ps c j) hi1 fj.1
      refine Eqm.trans ?_ this
      show Eqm (unit_ i j) (ix (rowOf L i) (freeAt ps c j))
      have hr := hN.row i hi1
      unfold unit_
      by_cases e : j = i
      · subst e
        rw [if_pos rfl, hr.one]
        exact Eqm.refl _
      · rw [if_neg e, hr.zer _ fj.1 (fun e2 => e (freeAt_inj (hf j hj) (hf i hi1) e2)) fj.2]
        exact Eqm.refl _
    rw [e0, det_id] at e1
    exact absurd e1 (by unfold Eqm; decide)
  · omega
theorem nul_good {n c : Nat} {A : Mx} {P L : List (List Int)} {ps : List Int} (hi : GInv n c A c P ps) (hN : Nul c c P ps L) (hc : 1 ≤ c ∧ c ≤ 5) (h0 : L.length ≠ 0) : Good L.length c L := by
  have hcnt := free_count hi.st hi.pos
  rw [← hN.len] at hcnt
  refine ⟨by omega, hc, ⟨rfl, fun i hl => (hN.row i hl).len⟩, fun i j h1 h2 => ?_⟩
  have := (hN.row i h1).range hi.pos j (by rw [(hN.row i h1).len]; exact h2)
  exact this

set_option maxHeartbeats 4000000 in
set_option maxRecDepth 100000 in
theorem solveNull_walk {a : Option Addr} {n ca : Nat} {A : List (List Int)} {w : World} (hA : RdM w a n ca A) (_ : ∀ r ∈ A, Fit r) :
    Calls Try.prog 14 #[.slice a n ca] w fun e w' => e = .returned (.bool true) ∧ Below w.heap.size w w' := by
  go_enter Try.func14, Try.ntmps14
  go_wp2_with (first | (go_at_call 47; refine (solveFact_any _).mono ?_; rintro e w1 ⟨rfl, k1⟩) | (go_at_call 46; fail))
  rcases hq : groundsR 5 0 9972 A with _ | x
  · have GA0 := Good.of hA.len_eq hq
    obtain ⟨c, hc⟩ : ∃ c, (rowOf A 0).length = c := ⟨_, rfl⟩
    rw [hc] at GA0
    have n1 := GA0.n1
    have c1 := GA0.c1
    have GA := Lib.hid GA0
    clear hq GA0 hc
    have C := Lib.hid (Null_ok (hA.below k1) GA.out)
    (with_reducible refine C.out.mono ?_)
    clear C
    rintro e w2 ⟨al, cl, L, P, ps, rfl, ho, hi, hN, hb⟩
    have k2 := below_tr k1 hb
    have HI := Lib.hid hi
    have HN := Lib.hid hN
    have hL := ho.rd
    clear hb k1 hi hN ho
    have C := Lib.hid (Rank_ok (hA.below k2) GA.out)
    go_wp2_with (first | (go_at_call 45; fail))
    (with_reducible refine C.out.mono ?_)
    clear C
    rintro e w3 ⟨P', ps', rfl, hi, hb⟩
    have k3 := below_tr k2 hb
    have hs := (hi.same HI.out (Made.refl _ _ _) (Made.refl _ _ _)).2
    subst hs
    have hL := hL.below hb
    have hcnt := free_count HI.out.st HI.out.pos
    rw [← HN.out.len] at hcnt
    have hcnt' : ((ps'.length : Int) + (L.length : Int) != (c : Int)) = false := bne_eq_false_iff_eq.2 (by omega)
    clear hb k2 hi
    obtain ⟨bm, om, rfl, am, cm, hm0, _⟩ := (hA.below k3).rowIn GA.out.dm (k := 0) (by omega)
    rw [Nat.add_zero] at hm0
    have b1 : (0 : Int) < (n : Int) := by omega
    have b2 : (1 : Int) ≤ (n : Int) := by omega
    have z0 : ((n : Int) == 0) = false := beq_eq_false_iff_ne.2 (by omega)
    have lL : L.length ≤ 5 := by omega
    go_wp2
    go_loopw [7] (fun v wr => ∃ (i : Nat), i ≤ L.length ∧ v = .int .i64 i ∧ Below w3.heap.size w3 wr) (fun v _ => L.length - (intOf v).toNat)
    case atStart => exact ⟨0, Nat.zero_le _, rfl, Below.refl _ _⟩
    case round =>
      obtain ⟨i, hiL, rfl, hb⟩ := hrel
      have k4 := below_tr k3 hb
      by_cases hlt : i < L.length
      · have hlt' : (i : Int) < (L.length : Int) := by omega
        have hm1 := hb.keep (World.block_lt_of_cell? _ _ hm0) hm0
        obtain ⟨bl, ol, rfl, ar, cr, hc1, hrd⟩ := (hL.below hb).rowIn (c := c) ⟨rfl, fun i h => (HN.out.row i h).len⟩ hlt
        have hz : Hid (∀ k, k < n → ix (toN A (rowOf L i) c n) k = 0) := fun k hk => by
          rw [toN_ix hk]
          have hf := freeAt_mem (ps := ps') (q := c) (t := i) (by rw [← HN.out.len]; exact hlt)
          have := (HN.out.row i hlt).nought HI.out.st rfl HI.out.pos hf.2 hf.1 (i := k)
          have h2 := HI.out.back.null (v := ix (rowOf L i)) (fun k hk => (HN.out.row i hlt).nought HI.out.st rfl HI.out.pos hf.2 hf.1 hk) hk
          exact h2
        have hin := (HN.out.row i hlt).range HI.out.pos
        have hbl : bm < wr.heap.size ∧ bl < wr.heap.size := ⟨World.block_lt_of_cell? _ _ hm1, World.block_lt_of_cell? _ _ hc1⟩
        have hbl1 := hbl.1
        have hbl2 := hbl.2
        have HIN := Lib.hid hin
        have b3 : 0 < n := by omega
        have z1 : ((c : Int) != (c : Int)) = false := bne_eq_false_iff_eq.2 rfl
        clear hin hbl
        go_wp2
        go_region_held3 (fun w' => w'.cell? ⟨bm, om, none⟩ = some (.slice am c cm) ∧ w'.cell? ⟨bl, ol + i, none⟩ = some (.slice ar c cr))
          (first | go_keep | (go_split_ands; refine ⟨?_, ?_⟩ <;> first | assumption | (refine hbk.keep ?_ ?_ <;> first | assumption | omega | (simp; omega))))
          (first
            | (go_at_call 38; refine (To_any (hA.below k4.drew) GA.out.dm GA.out.ent (hrd.below (Below.refl _ _).drew) HIN.out (by omega)).mono ?_; rintro e w5 ⟨a5, c5, rfl, ho5, hbk⟩)
            | (go_at_call 26; refine (Sum_any ho5.rd (fun k hk => by rw [toN_len] at hk; rw [toN_ix hk]; exact toV_in _ _ _ _) (by omega)).mono ?_; rw [sum_zero hz.out]; rintro e w6 ⟨rfl, rfl⟩))
        go_wp2
        go_roundw
        case rel => exact ⟨i + 1, by omega, by go_num, below_tr hb ((Below.refl _ _).drew.trans hbk)⟩
        case measure => simp [intOf]; omega
      · obtain rfl : i = L.length := by omega
        have k4 := below_tr k3 hb
        have hL := hL.below hb
        by_cases h0 : L.length = 0
        · have z3 : ((L.length : Int) == 0) = true := beq_iff_eq.2 (by omega)
          have H0 := Lib.hid h0
          clear h0
          go_wp2
          go_ret
          exact ⟨rfl, k4⟩
        · have z3 : ((L.length : Int) == 0) = false := beq_eq_false_iff_ne.2 (by omega)
          have GL := nul_good HI.out HN.out c1 h0
          have C := Lib.hid (Rank_ok hL GL)
          clear GL
          go_wp2_with (first | (go_at_call 45; fail))
          (with_reducible refine C.out.mono ?_)
          clear C
          rintro e w6 ⟨P2, ps2, rfl, hi2, hb2⟩
          have k6 := below_tr k4 hb2
          have hr := nul_rank HI.out HN.out hi2
          have z4 : ((ps2.length : Int) == (L.length : Int)) = true := beq_iff_eq.2 (by omega)
          clear hi2 hr
          go_wp2
          go_ret
          exact ⟨rfl, k6⟩
  · have C := Lib.hid (Null_err (hA.below k1) hq)
    clear hq
    (with_reducible refine C.out.mono ?_)
    rintro e w2 ⟨rfl, rfl⟩
    go_wp2
    go_ret
    exact ⟨rfl, k1⟩
end Go.Proofs.Ytohconpfpecldaa

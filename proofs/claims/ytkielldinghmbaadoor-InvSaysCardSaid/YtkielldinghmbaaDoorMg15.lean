/-
  The reference's Inverse and Change walked.
  InvSays walked: of any matrix what undoes it, and what undoes it with products added.
-/
import Derived.Test.YtkielldinghmbaaDoorRows
import Derived.Test.YtkielldinghmbaaDoorMg0
import Derived.Test.YtkielldinghmbaaDoorMg1
import Derived.Test.YtkielldinghmbaaDoorMg2
import Derived.Test.YtkielldinghmbaaDoorMg8
import Derived.Test.YtkielldinghmbaaDoorMg10
import Derived.Test.YtkielldinghmbaaDoorMg12
import Derived.Test.YtkielldinghmbaaDoorMg14
namespace Go.Proofs.YtkielldinghmbaaDoor
open Go.RowKit Go.Rk

/-- A matrix with the one that changes nothing beside it: the first k rows. -/
def augI (n : Nat) (M : List (List Int)) (k : Nat) : List (List Int) := (List.range k).map fun i => rowOf M i ++ rowF (oneM i) n
theorem augI_succ (n : Nat) (M : List (List Int)) (k : Nat) : augI n M (k + 1) = augI n M k ++ [rowOf M k ++ rowF (oneM k) n] := by simp [augI, List.range_succ]
section
variable {n : Nat} {M Q : List (List Int)} {qs : List Int}
theorem augI_row {k : Nat} (hk : k < n) : rowOf (augI n M n) k = rowOf M k ++ rowF (oneM k) n := by
  rw [rowOf_lt (by simp [augI]; exact hk)]; simp [augI]
theorem augI_l (d : Dm n n M) {i j : Nat} (hi : i < n) (hj : j < n) : en (augI n M n) i j = en M i j := by
  unfold en; rw [augI_row hi, ix_append_left (by rw [d.2 i hi]; exact hj)]
theorem augI_r (d : Dm n n M) {i j : Nat} (hi : i < n) (hj : j < n) : en (augI n M n) i (n + j) = oneM i j := by
  unfold en; rw [augI_row hi, ix_append_right (by rw [d.2 i hi]; omega), d.2 i hi, Nat.add_sub_cancel_left, rowF_ix hj]
theorem augI_dm (d : Dm n n M) : Dm n (n + n) (augI n M n) := ⟨by simp [augI], fun i hi => by rw [augI_row hi, List.length_append, d.2 i hi, rowF_len]⟩
theorem augI_ent (d : Dm n n M) (e : EntR 0 9972 n n M) : EntR 0 9972 n (n + n) (augI n M n) := fun i j hi hj => by
  rcases Nat.lt_or_ge j n with h | h
  · rw [augI_l d hi h]; exact e i j hi h
  · obtain ⟨s, rfl⟩ := Nat.le.dest h
    rw [augI_r d hi (by omega)]
    unfold oneM
    split <;> omega

/-- Beside the steps stands the inverse. -/
theorem inv_beside (G : Good n n M) (hd : det n (mx M) % 9973 ≠ 0) (g : GInv n (n + n) (mx (augI n M n)) n Q qs) {i j : Nat} (hi : i < n) (hj : j < n) : en Q i (n + j) = invE n M i j := by
  have hM : EqM n n (mx (augI n M n)) (mx M) := fun i j hi hj => Eqm.of_eq (augI_l G.dm hi hj)
  have m1 : Made n n (mx M) (mx Q) := Made.trans (Made.eqm hM.symm) (g.made.cols (by omega))
  have m2 : Made n n (mx Q) (mx M) := (g.back.cols (by omega)).trans (Made.eqm hM)
  have hr : qs.length = n := (g.st.full m1 m2).2 fun e => hd e
  obtain ⟨K, hK⟩ := g.made
  have st := g.st
  rw [hr] at st
  have hp : ∀ d i, i + d = n → i < n → (ix qs i).toNat + d ≤ n := by
    intro d
    induction d with
    | zero => intro i h1 h2; omega
    | succ d ih =>
      intro i h1 h2
      rcases Nat.lt_or_ge (i + 1) n with h3 | h3
      · have := ih (i + 1) (by omega) h3
        have : (ix qs i).toNat < (ix qs (i + 1)).toNat := st.inc i (i + 1) (by omega) h3
        omega
      · have : (ix qs i).toNat < n := st.lt i h2
        omega
  have hp2 : ∀ i, i < n → i ≤ (ix qs i).toNat := by
    intro i
    induction i with
    | zero => intro _; omega
    | succ i ih =>
      intro hi
      have := ih (by omega)
      have : (ix qs i).toNat < (ix qs (i + 1)).toNat := st.inc i (i + 1) (by omega) hi
      omega
  have hpi : ∀ i, i < n → (ix qs i).toNat = i := fun i hi => by
    have := hp (n - i) i (by omega) hi
    have := hp2 i hi
    omega
  have one : EqM n n (mx Q) oneM := fun i j hi hj => by
    have : Eqm (mx Q i (ix qs j).toNat) (if i = j then 1 else 0) := st.one i j hi hj
    rwa [hpi j hj] at this
  have hQ1 : EqM n n (mx Q) (mulM n K (mx (augI n M n))) := fun i j hi hj => hK i j hi (by omega)
  have kl : EqM n n (mulM n K (mx M)) oneM := (EqM.mul (EqM.refl n n K) hM).symm.trans (hQ1.symm.trans one)
  have e1 := inv_one (invE_inv hd).right kl i j hi hj
  have e2 := hK i (n + j) hi (by omega)
  have e3 : mulM n K (mx (augI n M n)) i (n + j) = mulM n K oneM i j := sumTo_congr fun t ht => by
    show _ * en (augI n M n) t (n + j) = _
    rw [augI_r G.dm ht hj]
  rw [e3] at e2
  have e4 := e2.trans ((one_right K i j hi hj).trans e1.symm)
  have b1 := g.ent i (n + j) hi (by omega)
  have b2 : 0 ≤ invE n M i j ∧ invE n M i j ≤ 9972 := by unfold invE; omega
  exact Eqm.eq e4 b1 b2
end

/-- Rows from a column on. -/
def dropR (n : Nat) (Q : List (List Int)) (k : Nat) : List (List Int) := (List.range k).map fun i => (rowOf Q i).drop n
theorem dropR_succ (n : Nat) (Q : List (List Int)) (k : Nat) : dropR n Q (k + 1) = dropR n Q k ++ [(rowOf Q k).drop n] := by simp [dropR, List.range_succ]
theorem dropR_is {n : Nat} {Q : List (List Int)} (d : Dm n (n + n) Q) : IsR n n (dropR n Q n) fun i j => en Q i (n + j) := by
  have hr : ∀ i, i < n → rowOf (dropR n Q n) i = (rowOf Q i).drop n := fun i hi => by rw [rowOf_lt (by simp [dropR]; exact hi)]; simp [dropR]
  refine ⟨⟨by simp [dropR], fun i hi => by rw [hr i hi, List.length_drop, d.2 i hi]; omega⟩, fun i j hi hj => ?_⟩
  unfold en
  rw [hr i hi, ix_drop]

set_option maxHeartbeats 4000000 in
set_option maxRecDepth 100000 in
theorem M_Inverse_any {a : Option Addr} {n ca : Nat} {M : List (List Int)} {w : World} (hM : RdM w a n ca M) (G : Good n n M) (hd : det n (mx M) % 9973 ≠ 0) :
    Calls Tryd.prog 55 #[.slice a n ca] w fun e w' => ∃ a' c' P, e = .returned (.slice a' n c') ∧ RdM w' a' n c' P ∧ IsR n n P (invE n M) ∧ Below w.heap.size w w' := by
  have HM := Lib.hid matTy
  have HG := Lib.hid G
  have HD := Lib.hid hd
  have n1 := G.n1
  have lm := hM.len_max
  clear G hd
  go_enter Tryd.func55, Tryd.ntmps55
  go_wp2_with (first | (go_at_call 27; refine (R_Unit_any n _ (by omega)).mono ?_; rintro e w1 ⟨aU, cU, rfl, hU0, bU⟩))
  have hU := hU0.rd
  have HU := Lib.hid (rowsF_is oneM n n)
  clear hU0
  go_loopw [5, 6] (fun v x wr => ∃ (k : Nat) (q : Option Addr) (cq : Nat), k ≤ n ∧ x = .int .i64 k ∧ v = .slice q k cq ∧ OwM wr w1.heap.size 32 3 q k cq (augI n M k) ∧ Below w1.heap.size w1 wr) (fun _ x _ => n - (intOf x).toNat)
  case atStart => exact ⟨0, none, 0, Nat.zero_le _, rfl, rfl, OwM.nil _ _ _ _, Below.refl _ _⟩
  case round =>
    obtain ⟨k, q, cq, hk, rfl, rfl, ho, hb⟩ := hrel
    obtain ⟨wo, rfl⟩ : ∃ x, x = wr := ⟨_, rfl⟩
    have hsz := hb.size
    have kb := below_tr bU hb
    by_cases hlt : k < n
    · have i1 : (k : Int) < (n : Int) := by omega
      obtain ⟨bm, om, rfl, ar, cr, e1, hrd⟩ := (hM.below kb).rowIn HG.out.dm hlt
      obtain ⟨bu, ou, rfl, au, du, e2, hru⟩ := (hU.below hb).rowIn HU.out.1 hlt
      have hbu2 := World.block_lt_of_cell? _ _ e2
      have hul := hru.le
      go_wp2_with (first
        | (at_builtin; refine wpList_append_ints HM.out.int rfl (.tmp 21) (.tmp 25) rfl rfl rfl (OwI.nil wo wo.heap.size _) hrd (by omega) (Nat.le_refl _) ?_; intro a3 cap3 w3 ho3 hg3; have hb3 := below_of_grown hg3; rw [Nat.zero_add, List.nil_append] at ho3; have y3 := hb3.keep hbu2 e2; have hs3 := hb3.size; have hru3 := hru.below hb3)
        | (at_builtin; refine wpList_append_ints HM.out.int rfl (.tmp 28) (.tmp 32) rfl rfl rfl ho3 hru3 (by omega) (by omega) ?_; intro a4 cap4 w4 ho4 hg4; have hb4 := below_grown hb3 ho3 (by omega) hg4; have hs4 := hb4.size)
        | (at_builtin; refine wpList_push_row HM.out rfl (.tmp 27) (.tmp 34) rfl rfl rfl ho (hb4.alloc hs4 _) (ho4.alloc _) (by simp) (by omega) hsz ?_; intro a5 cap5 w5 ho5 hb5))
      have hb6 := (hb.trans ((hb4.alloc hs4 _).mono hsz)).trans hb5
      go_roundw
      case rel => exact ⟨k + 1, a5, cap5, by omega, by go_num, rfl, by rw [augI_succ, ← rowsF_row (F := oneM) (c := n) hlt]; exact ho5, hb6⟩
      case measure => simp [intOf]; omega
    · obtain rfl : n = k := by omega
      have C := Lib.hid (R_Stairs_any (cols := n) ho.rd (augI_dm HG.out.dm) (augI_ent HG.out.dm HG.out.ent) (by omega) (by omega) (by omega) (by omega) (by omega))
      clear ho
      go_wp2_with (go_at_call 30; fail)
      (with_reducible refine C.out.mono ?_)
      clear C
      rintro e w2 ⟨ao, co, ap, cp, Q, qs, rfl, hQ, _, hi, hb2⟩
      have kb2 := below_tr kb hb2
      have HI := Lib.hid hi
      have hQr := hQ
      clear hQ hi kb hb2 hb bU
      go_wp2
      go_loopw [10, 11] (fun s v wv => ∃ (j : Nat) (ap : Option Addr) (cp : Nat), j ≤ n ∧ v = .int .i64 j ∧ s = .slice ap j cp ∧ AlM w2 wv 32 ap j cp (dropR n Q j)) (fun _ v _ => n - (intOf v).toNat)
      case atStart => exact ⟨0, none, 0, by omega, rfl, rfl, AlM.nil _ (Below.refl _ _)⟩
      case round =>
        obtain ⟨j, ap, cp, hj, rfl, rfl, hal⟩ := hrel
        by_cases hjn : j < n
        · have i2 : (j : Int) < (n : Int) := by omega
          obtain ⟨N, hN⟩ : ∃ N, N = n + n := ⟨_, rfl⟩
          obtain ⟨bQ, oQ, rfl, ar, cr, e1, hrd⟩ := hQr.rowIn HI.out.dm hjn
          obtain ⟨br, or_, rfl, _, _⟩ := hrd.at (k := 0) (by omega)
          rw [← hN] at e1
          have hc2 := hal.bel.keep (World.block_lt_of_cell? _ _ e1) e1
          have hle := hrd.le
          have hcr : cr ≠ n := by omega
          have HRT : Hid (RdI w2 (some ⟨br, or_ + n, none⟩) n (cr - n) ((rowOf Q j).drop n)) := by
            have h := hrd.drop (n := n) (by omega)
            rw [if_neg hcr, Option.map_some, addr_add, Nat.add_sub_cancel_left] at h
            exact h
          have HTL : Hid (((rowOf Q j).drop n).length = n) := HRT.out.len_eq
          have i3 : (n : Int) ≤ (N : Int) := by omega
          have i4 : (N : Int) ≤ (cr : Int) := by omega
          clear hrd e1
          go_wp2_with (first | (at_builtin; refine wpList_push_alias HM.out rfl (.tmp 47) (.tmp 54) rfl rfl rfl (hal.alloc _) (ar := some ⟨br, or_ + n, none⟩) (l := (rowOf Q j).drop n) (cr := cr - n) (by rw [HTL.out]; exact HRT.out) (by rw [HTL.out]; simp) (by omega) ?_; intro a4 cap4 w4 ho4))
          go_roundw
          case rel => exact ⟨j + 1, _, _, by omega, by go_num, rfl, by rw [dropR_succ]; exact ho4⟩
          case measure => simp [intOf]; omega
        · obtain rfl : n = j := by omega
          go_wp2
          go_ret
          exact ⟨ap, cp, _, rfl, hal.rd, (dropR_is HI.out.dm).congr fun i j hi hj => inv_beside HG.out HD.out HI.out hi hj, below_tr kb2 hal.bel⟩

/-- What the reference's Change puts at the places ahead of one. -/
def chgPut (n : Nat) (A : List (List Int)) (u v : List Int) (i j r s : Nat) : Int := if r < i ∨ (r = i ∧ s < j) then chgE n A u v r s else en A r s

set_option maxHeartbeats 4000000 in
set_option maxRecDepth 100000 in
theorem M_Change_any {a b d : Option Addr} {n ca cb cd : Nat} {A : List (List Int)} {u v : List Int} {w : World} (hA : RdM w a n ca A) (G : Good n n A) (hu : RdI w b n cb u) (hv : RdI w d n cd v) (iu : In 0 9972 u) (iv : In 0 9972 v) :
    Calls Tryd.prog 57 #[.slice a n ca, .slice b n cb, .slice d n cd] w fun e w' => Below w.heap.size w w' ∧ ((chgK n A u v = 0 ∧ e = .returned (.tuple #[.slice none 0 0, .int .i64 5])) ∨ (chgK n A u v ≠ 0 ∧ ∃ a' c' P, e = .returned (.tuple #[.slice a' n c', .int .i64 0]) ∧ OwM w' w.heap.size 32 3 a' n c' P ∧ IsR n n P (chgE n A u v))) := by
  have HM := Lib.hid matTy
  have HG := Lib.hid G
  have n1 := G.n1
  have lm := hA.len_max
  have lu := Lib.hid hu.len_eq
  have lv := Lib.hid hv.len_eq
  have IU := Lib.hid iu
  have IV := Lib.hid iv
  clear G iu iv
  go_enter Tryd.func57, Tryd.ntmps57
  go_wp2_with (go_at_call 54; fail)
  refine (To_any hA HG.out.dm HG.out.ent hu IU.out (by omega)).mono ?_
  rintro e w1 ⟨aL, cL, rfl, hL, b1⟩
  have HL : Hid (toN A u n n = toN A u n n) := rfl
  go_wp2_with (go_at_call 19; fail)
  refine (R_Flip_any (hA.below b1) HG.out.dm (by omega) (by omega) (by omega)).mono ?_
  rintro e w2 ⟨aF, cF, rfl, hF, b2⟩
  have k2 := below_tr b1 b2
  go_wp2_with (go_at_call 54; fail)
  refine (To_any hF.rd (flipL_is A n n).1 (flipL_ent HG.out.ent) (hv.below k2) IV.out (by omega)).mono ?_
  rintro e w3 ⟨aR, cR, rfl, hR, b3⟩
  have k3 := below_tr k2 b3
  have hL3 := (hL.below b2).below b3
  have hR3 := hR.rd
  have hL3 := hL3.rd
  have eC : Hid (∀ i, i < n → ix (toN A u n n) i = colS n A u i) := fun i hi => by rw [toN_ix hi]; rfl
  have eR : Hid (∀ j, j < n → ix (toN (flipL A n n) v n n) j = rowS n A v j) := fun j hj => by
    rw [toN_ix hj]
    unfold toV rowS
    congr 1
    refine sumTo_congr fun i hi => ?_
    rw [(flipL_is A n n).2 j i hj hi, Int.mul_comm]
  generalize toN A u n n = Ls at *
  generalize toN (flipL A n n) v n n = Rs at *
  clear hL hF hR b1 b2 b3 k2 HL
  go_wp2_with fail
  go_loopw [11, 12] (fun x y wr => ∃ (t : Nat) (K : Int), t ≤ n ∧ y = .int .i64 t ∧ x = .int .i64 K ∧ Hid (K = (1 + sumTo (fun i => ix v i * colS n A u i) t) % 9973) ∧ Below w3.heap.size w3 wr) (fun _ y _ => n - (intOf y).toNat)
  case atStart => exact ⟨0, 1, Nat.zero_le _, rfl, rfl, rfl, Below.refl _ _⟩
  case round =>
    obtain ⟨t, K, ht, rfl, rfl, hKK, hb⟩ := hrel
    have bK : 0 ≤ K ∧ K ≤ 9972 := by rw [hKK.out]; omega
    have kb := below_tr k3 hb
    by_cases htn : t < n
    · obtain ⟨pl, ql, rfl, _, hcC⟩ := (hL3.below hb).at htn
      have x1 := hcC t htn
      obtain ⟨pv, qv, rfl, _, hcv⟩ := (hv.below kb).at htn
      have x2 := hcv t htn
      obtain ⟨V, hV⟩ : ∃ V, ix v t = V := ⟨_, rfl⟩
      have bV : 0 ≤ V ∧ V ≤ 9972 := by rw [← hV]; exact IV.out t (by rw [lv.out]; exact htn)
      rw [hV] at x2
      obtain ⟨Z, hZ⟩ : ∃ Z, ix Ls t = Z := ⟨_, rfl⟩
      have bZ : 0 ≤ Z ∧ Z ≤ 9972 := by rw [← hZ, eC.out t htn]; unfold colS; omega
      rw [hZ] at x1
      have HS : Hid ((K + V * Z) % 9973 = (1 + sumTo (fun i => ix v i * colS n A u i) (t + 1)) % 9973) := by
        unfold Hid
        rw [hKK.out, ← hV, ← hZ, eC.out t htn, Int.emod_add_emod, sumTo, Int.add_assoc]
      have i1 : (t : Int) < (n : Int) := by omega
      have bm := mul_bd bV bZ
      have u1 : IntKind.i64.wrap (V * Z) = V * Z := Go.IntWalk.i64_in _ (by omega)
      have u2 : IntKind.i64.wrap (K + V * Z) = K + V * Z := Go.IntWalk.i64_in _ (by omega)
      clear hV hZ hcC hcv hKK
      go_wp2
      go_quiet ((go_at_call 47; exact quietW (R_Mod_any _ _ (by omega) (by omega))))
      go_wp2
      go_roundw
      case rel => exact ⟨t + 1, _, by omega, by go_num, rfl, HS, below_tr hb (below_drewN (Below.refl _ _) _)⟩
      case measure => simp [intOf]; omega
    · obtain rfl : n = t := by omega
      obtain ⟨wk, rfl⟩ : ∃ x, x = wr := ⟨_, rfl⟩
      have hk0 : Hid (K = chgK n A u v) := hKK
      clear hKK
      by_cases hz0 : K = 0
      · have z : (K == 0) = true := beq_iff_eq.2 hz0
        have HZ := Lib.hid hz0
        clear hz0
        go_wp2
        go_ret2
        exact ⟨kb, .inl ⟨by rw [← hk0.out, HZ.out], rfl⟩⟩
      · have z : (K == 0) = false := beq_eq_false_iff_ne.2 hz0
        have HZ := Lib.hid hz0
        clear hz0
        obtain ⟨o, ho⟩ : ∃ o, o = powm K 9971 := ⟨_, rfl⟩
        have bO : 0 ≤ o ∧ o ≤ 9972 := by rw [ho]; unfold powm; omega
        have CO : Hid (∀ w, Calls Tryd.prog 72 #[.int .i64 K, .int .i64 9971] w fun e w' => e = .returned (.int .i64 o) ∧ w = w') := fun w => by rw [ho]; exact R_Pow_any 9971 9971 K w (Nat.le_refl _) (by omega) bK
        have HO := Lib.hid ho
        clear ho
        go_wp2_with (first | (go_at_call 72; (with_reducible refine (CO.out _).mono ?_); rintro e w4 ⟨rfl, rfl⟩) | (go_at_call 60; fail))
        refine (R_Copy_any (hA.below kb) (by omega) (fun r hr => by rw [HG.out.dm.2 r hr]; omega)).mono ?_
        rintro e w5 ⟨a5, c5, rfl, ho5, b5⟩
        obtain ⟨g, D, Cp, hz, hd5⟩ := ho5.named (by omega) (fun r hr => by rw [HG.out.dm.2 r hr]; omega)
        cases hz
        have hP0 : Hid (Dm n n A ∧ ∀ r s, r < n → s < n → en A r s = chgPut n A u v 0 0 r s) := ⟨HG.out.dm, fun r s _ _ => by unfold chgPut; rw [if_neg (by omega)]⟩
        have hLb := hL3.below hb
        have hRb := hR3.below hb
        clear CO hL3 hR3 hb ho5 k3
        go_wp2_with fail
        go_loopw [15] (fun x wt => ∃ (i : Nat) (P : List (List Int)), i ≤ n ∧ x = .int .i64 i ∧ OwMD wt wk.heap.size 32 3 g D Cp n c5 P ∧ Hid (Dm n n P ∧ ∀ r s, r < n → s < n → en P r s = chgPut n A u v i 0 r s) ∧ Below wk.heap.size wk wt) (fun x _ => n - (intOf x).toNat)
        case atStart => exact ⟨0, A, Nat.zero_le _, rfl, hd5, hP0, b5⟩
        case round =>
          clear hd5 hP0 b5
          obtain ⟨i, P, hi, rfl, hd, hP, hb⟩ := hrel
          by_cases hin : i < n
          · have i1 : (i : Int) < (n : Int) := by omega
            go_wp2
            go_loopw [16] (fun x wt => ∃ (j : Nat) (P : List (List Int)), j ≤ n ∧ x = .int .i64 j ∧ OwMD wt wk.heap.size 32 3 g D Cp n c5 P ∧ Hid (Dm n n P ∧ ∀ r s, r < n → s < n → en P r s = chgPut n A u v i j r s) ∧ Below wk.heap.size wk wt) (fun x _ => n - (intOf x).toNat)
            case atStart => exact ⟨0, P, Nat.zero_le _, rfl, hd, hP, hb⟩
            case round =>
              clear hd hP hb
              obtain ⟨j, P, hj, rfl, hd, hP, hb⟩ := hrel
              have kq := below_tr kb hb
              by_cases hjn : j < n
              · have i2 : (j : Int) < (n : Int) := by omega
                have a1 := hd.cellO hin
                have a2 := hd.cellI hin (j := j) (by rw [hP.out.1.2 i hin]; exact hjn)
                have a3 := hd.frozenI hin (by rw [hP.out.1.2 i hin]; omega) j
                rw [hP.out.1.2 i hin] at a1
                obtain ⟨ba, oa, rfl, ar, cr, hca, hra⟩ := (hA.below kq).rowIn HG.out.dm hin
                obtain ⟨pa, qa, rfl, _, hea⟩ := hra.at hjn
                have x0 := hea j hjn
                obtain ⟨pl, ql, rfl, _, hcl⟩ := (hLb.below hb).at hin
                have x1 := hcl i hin
                obtain ⟨pr, qr, rfl, _, hcr⟩ := (hRb.below hb).at hjn
                have x2 := hcr j hjn
                have bX := HG.out.ent i j hin hjn
                rw [show ix (rowOf A i) j = en A i j from rfl] at x0
                obtain ⟨X, hX⟩ : ∃ X, en A i j = X := ⟨_, rfl⟩
                rw [hX] at x0 bX
                obtain ⟨Y, hY⟩ : ∃ Y, ix Ls i = Y := ⟨_, rfl⟩
                have bY : 0 ≤ Y ∧ Y ≤ 9972 := by rw [← hY, eC.out i hin]; unfold colS; omega
                rw [hY] at x1
                obtain ⟨Z, hZ⟩ : ∃ Z, ix Rs j = Z := ⟨_, rfl⟩
                have bZ : 0 ≤ Z ∧ Z ≤ 9972 := by rw [← hZ, eR.out j hjn]; unfold rowS; omega
                rw [hZ] at x2
                have bm := mul_bd bY bZ
                obtain ⟨m, hm⟩ : ∃ m, (Y * Z) % 9973 = m := ⟨_, rfl⟩
                have bM : 0 ≤ m ∧ m ≤ 9972 := by omega
                have bn := mul_bd bM bO
                have CM : Hid (∀ w, Calls Tryd.prog 47 #[.int .i64 (Y * Z)] w fun e w' => e = .returned (.int .i64 m) ∧ w = w') := fun w => by rw [← hm]; exact R_Mod_any _ _ (by omega) (by omega)
                have u1 : IntKind.i64.wrap (Y * Z) = Y * Z := Go.IntWalk.i64_in _ (by omega)
                have u4 : IntKind.i64.wrap (m * o) = m * o := Go.IntWalk.i64_in _ (by omega)
                have u5 : IntKind.i64.wrap (X - m * o) = X - m * o := Go.IntWalk.i64_in _ (by omega)
                have HV : Hid ((X - m * o) % 9973 = chgE n A u v i j) := by
                  unfold Hid chgE
                  rw [hX, ← eC.out i hin, ← eR.out j hjn, hY, hZ, hm, ← hk0.out, ← HO.out]
                clear hX hY hZ hea hcl hcr hm
                go_wp2
                go_still_tail 27, (by kernel_rfl)
                still_call (stillW (CM.out _))
                repeat still_step
                still_call (stillW (R_Mod_any _ _ (by omega) (by omega)))
                repeat still_step
                refine wpStill_nil ?_
                change wpList _ _ _ _ _ wr.drew
                clear u1 u4 u5 CM
                go_wp2
                go_roundw
                case rel => exact ⟨j + 1, _, by omega, by go_num, (hd.set matTy.ne hin _).drew, ⟨hP.out.1.setE _ _ _, fun r s hr hs => by
                  rw [hP.out.1.en_set _ hr hs]
                  by_cases e : i = r ∧ j = s
                  · rw [if_pos e, ← e.1, ← e.2, HV.out]
                    unfold chgPut
                    rw [if_pos (by omega)]
                  · rw [if_neg e, hP.out.2 r s hr hs]
                    unfold chgPut
                    by_cases e2 : r < i ∨ (r = i ∧ s < j)
                    · rw [if_pos e2, if_pos (by omega)]
                    · rw [if_neg e2, if_neg (by omega)]⟩, (hb.setCell (p := ⟨D i, j, none⟩) (hd.lowI hin).1 _).drew⟩
                case measure => simp [intOf]; omega
              · obtain rfl : n = j := by omega
                go_wp2
                go_roundw
                case rel => exact ⟨i + 1, P, by omega, by go_num, hd, ⟨hP.out.1, fun r s hr hs => by
                  rw [hP.out.2 r s hr hs]
                  unfold chgPut
                  by_cases e2 : r < i ∨ (r = i ∧ s < n)
                  · rw [if_pos e2, if_pos (by omega)]
                  · rw [if_neg e2, if_neg (by omega)]⟩, hb⟩
                case measure => simp [intOf]; omega
          · obtain rfl : n = i := by omega
            have hkz := kb.size
            go_wp2
            go_ret2
            exact ⟨below_tr kb hb, .inr ⟨by rw [← hk0.out]; exact HZ.out, _, _, P, rfl, hd.toM.mono hkz, hP.out.1, fun r s hr hs => by rw [hP.out.2 r s hr hs]; unfold chgPut; rw [if_pos (.inl hr)]⟩⟩
end Go.Proofs.YtkielldinghmbaaDoor
namespace Go.Proofs.YtkielldinghmbaaDoor
open Go.RowKit Go.Rk

section
variable {a b d : Option Addr} {n ca m cb k cd : Nat} {M : List (List Int)} {u v : List Int} {w : World}
set_option maxHeartbeats 4000000 in
set_option maxRecDepth 100000 in
theorem invSays_err (hg : ErrT w) (hM : RdM w a n ca M) (hu : RdI w b m cb u) (hv : RdI w d k cd v) {x : Int} (hq : squareR 5 0 9972 M = some x) :
    Calls Tryd.prog 11 #[.slice a n ca, .slice b m cb, .slice d k cd] w fun e w' => e = .returned (.bool true) ∧ Below w.heap.size w w' := by
  have lm := hM.len_max
  have lu := hu.len_max
  have lv := hv.len_max
  have C0 : Hid (Calls Tryd.prog 34 #[.slice a n ca, .int .i64 5, .int .i64 0, .int .i64 9972] w fun e w' => e = .returned (.int .i64 x) ∧ Below w.heap.size w w') := by
    have := R_Square_any 5 0 9972 hM
    rw [hq] at this
    exact this
  have z0 : (x == 0) = false := beq_eq_false_iff_ne.2 (squareR_nz hq)
  have HQ := Lib.hid hq
  clear hq
  go_enter Tryd.func11, Tryd.ntmps11
  go_wp2_with (first | (go_at_call 34; (with_reducible refine C0.out.mono ?_); rintro e w1 ⟨rfl, kk⟩) | (go_at_call 56; fail))
  refine (inv_Of_err (hM.below kk) HQ.out).mono ?_
  rintro e w' ⟨rfl, rfl⟩
  go_wp2_with (go_at_call 17; fail)
  refine (E_same (hg.below kk)).mono ?_
  rintro e w' ⟨rfl, b'⟩
  replace kk := below_tr kk b'
  clear b'
  go_wp2_with (go_at_call 21; fail)
  refine (Rows_none _).mono ?_
  rintro e w' ⟨rfl, b'⟩
  replace kk := below_tr kk b'
  clear b'
  go_wp2_with (go_at_call 58; fail)
  refine (Change_err1 (hM.below kk) HQ.out).mono ?_
  rintro e w' ⟨rfl, b'⟩
  replace kk := below_tr kk b'
  clear b'
  go_wp2_with (go_at_call 17; fail)
  refine (E_same (hg.below kk)).mono ?_
  rintro e w' ⟨rfl, b'⟩
  replace kk := below_tr kk b'
  clear b'
  go_wp2_with (go_at_call 21; fail)
  refine (Rows_none _).mono ?_
  rintro e w' ⟨rfl, b'⟩
  replace kk := below_tr kk b'
  clear b'
  go_wp2
  go_ret
  exact ⟨rfl, kk⟩
set_option maxHeartbeats 4000000 in
set_option maxRecDepth 100000 in
theorem invSays_none (hg : ErrT w) (hM : RdM w a n ca M) (hu : RdI w b m cb u) (hv : RdI w d k cd v) (HQ : Hid (squareR 5 0 9972 M = none)) (HG : Hid (Good n n M)) (HD : Hid (det n (mx M) % 9973 = 0)) :
    Calls Tryd.prog 11 #[.slice a n ca, .slice b m cb, .slice d k cd] w fun e w' => e = .returned (.bool true) ∧ Below w.heap.size w w' := by
  have lm := hM.len_max
  have lu := hu.len_max
  have lv := hv.len_max
  have C0 : Hid (Calls Tryd.prog 34 #[.slice a n ca, .int .i64 5, .int .i64 0, .int .i64 9972] w fun e w' => e = .returned (.int .i64 0) ∧ Below w.heap.size w w') := by
    have := R_Square_any 5 0 9972 hM
    rw [HQ.out] at this
    exact this
  have C1 := fun w' (q : Below w.heap.size w w') => R_DetMod_any n (hM.below q) HG.out.dm HG.out.ent (by have := HG.out.n1; omega)
  have n1 := HG.out.n1
  obtain ⟨D, hD⟩ : ∃ D, D = det n (mx M) % 9973 := ⟨_, rfl⟩
  simp only [← hD] at C1
  have z1 : (D == 0) = true := beq_iff_eq.2 (by rw [hD]; exact HD.out)
  have C1 := Lib.hid C1
  clear hD
  go_enter Tryd.func11, Tryd.ntmps11
  go_wp2_with (first | (go_at_call 34; (with_reducible refine C0.out.mono ?_); rintro e w1 ⟨rfl, kk⟩) | (go_at_call 38; (with_reducible refine (C1.out _ kk).mono ?_); rintro e w2 ⟨rfl, b2⟩; replace kk := below_tr kk b2; clear b2) | (go_at_call 56; fail) | (go_at_call 55; fail))
  clear C0 C1 z1
  refine (inv_Of_none (hM.below kk) HG.out HD.out).mono ?_
  rintro e w' ⟨rfl, b'⟩
  replace kk := below_tr kk b'
  clear b'
  go_wp2_with (go_at_call 17; fail)
  refine (E_same (hg.below kk)).mono ?_
  rintro e w' ⟨rfl, b'⟩
  replace kk := below_tr kk b'
  clear b'
  go_wp2_with (go_at_call 21; fail)
  refine (Rows_none _).mono ?_
  rintro e w' ⟨rfl, b'⟩
  replace kk := below_tr kk b'
  clear b'
  by_cases h1 : m = n
  · subst h1
    have z1 : ((m : Int) != (m : Int)) = false := bne_eq_false_iff_eq.2 rfl
    by_cases h2 : k = m
    · subst h2
      have C1 := fun w' (q : Below w.heap.size w w') => R_All_any 0 9972 (hu.below q)
      have C2 := fun w' (q : Below w.heap.size w w') => R_All_any 0 9972 (hv.below q)
      rcases hal : allB 0 9972 u with _ | _
      · simp only [hal] at C1
        have C1 := Lib.hid C1
        have HB : Hid ((anyB 0 9972 u || anyB 0 9972 v) = true) := by unfold Hid; rw [allB_any] at hal; simp only [Bool.not_eq_false'] at hal; rw [hal, Bool.true_or]
        clear C2 hal
        go_wp2_with (first | (go_at_call 50; (with_reducible refine (C1.out _ kk).mono ?_); rintro e w' ⟨rfl, rfl⟩) | (go_at_call 58; fail))
        refine (Change_err3 (hM.below kk) HQ.out (hu.below kk) (hv.below kk) HB.out).mono ?_
        rintro e w' ⟨rfl, b'⟩
        replace kk := below_tr kk b'
        clear b'
        go_wp2_with (go_at_call 17; fail)
        refine (E_same (hg.below kk)).mono ?_
        rintro e w' ⟨rfl, b'⟩
        replace kk := below_tr kk b'
        clear b'
        go_wp2_with (go_at_call 21; fail)
        refine (Rows_none _).mono ?_
        rintro e w' ⟨rfl, b'⟩
        replace kk := below_tr kk b'
        clear b'
        go_wp2
        go_ret
        exact ⟨rfl, kk⟩
      rcases hal2 : allB 0 9972 v with _ | _
      · simp only [hal] at C1
        simp only [hal2] at C2
        have C1 := Lib.hid C1
        have C2 := Lib.hid C2
        have HB : Hid ((anyB 0 9972 u || anyB 0 9972 v) = true) := by unfold Hid; rw [allB_any] at hal2; simp only [Bool.not_eq_false'] at hal2; rw [hal2, Bool.or_true]
        clear hal hal2
        go_wp2_with (first | (go_at_call 50; (first | ((with_reducible refine (C1.out _ kk).mono ?_); rintro e w' ⟨rfl, rfl⟩) | ((with_reducible refine (C2.out _ kk).mono ?_); rintro e w' ⟨rfl, rfl⟩))) | (go_at_call 58; fail))
        refine (Change_err3 (hM.below kk) HQ.out (hu.below kk) (hv.below kk) HB.out).mono ?_
        rintro e w' ⟨rfl, b'⟩
        replace kk := below_tr kk b'
        clear b'
        go_wp2_with (go_at_call 17; fail)
        refine (E_same (hg.below kk)).mono ?_
        rintro e w' ⟨rfl, b'⟩
        replace kk := below_tr kk b'
        clear b'
        go_wp2_with (go_at_call 21; fail)
        refine (Rows_none _).mono ?_
        rintro e w' ⟨rfl, b'⟩
        replace kk := below_tr kk b'
        clear b'
        go_wp2
        go_ret
        exact ⟨rfl, kk⟩
      simp only [hal] at C1
      simp only [hal2] at C2
      have C1 := Lib.hid C1
      have C2 := Lib.hid C2
      have IU := Lib.hid (allB_in hal)
      have IV := Lib.hid (allB_in hal2)
      clear hal hal2
      go_wp2_with (first | (go_at_call 50; (first | ((with_reducible refine (C1.out _ kk).mono ?_); rintro e w' ⟨rfl, rfl⟩) | ((with_reducible refine (C2.out _ kk).mono ?_); rintro e w' ⟨rfl, rfl⟩))) | (go_at_call 57; fail))
      clear C1 C2
      refine (M_Change_any (hM.below kk) HG.out (hu.below kk) (hv.below kk) IU.out IV.out).mono ?_
      rintro e w' ⟨b', hor⟩
      replace kk := below_tr kk b'
      clear b'
      rcases hor with ⟨hz, rfl⟩ | ⟨hz, aN, cN, N, rfl, hN, hNi⟩
      · have HZ := Lib.hid hz
        clear hz
        go_wp2_with (go_at_call 58; fail)
        refine (Change_ok (hM.below kk) HG.out (hu.below kk) (hv.below kk) IU.out IV.out).mono ?_
        rintro e w' ⟨b', hor⟩
        replace kk := below_tr kk b'
        clear b'
        rcases hor with ⟨_, rfl⟩ | ⟨hz, _⟩
        · go_wp2_with (go_at_call 17; fail)
          refine (E_same (hg.below kk)).mono ?_
          rintro e w' ⟨rfl, b'⟩
          replace kk := below_tr kk b'
          clear b'
          go_wp2_with (go_at_call 21; fail)
          refine (Rows_none _).mono ?_
          rintro e w' ⟨rfl, b'⟩
          replace kk := below_tr kk b'
          clear b'
          go_wp2
          go_ret
          exact ⟨rfl, kk⟩
        · exact absurd HZ.out hz
      · have HZ := Lib.hid hz
        have hN1 := hN.rd
        have HNI := Lib.hid hNi
        clear hz hN hNi
        go_wp2_with (go_at_call 58; fail)
        refine (Change_ok (hM.below kk) HG.out (hu.below kk) (hv.below kk) IU.out IV.out).mono ?_
        rintro e w' ⟨b', hor⟩
        replace hN1 := hN1.below b'
        replace kk := below_tr kk b'
        clear b'
        rcases hor with ⟨hz, _⟩ | ⟨_, aQ, cQ, Q, rfl, hQ, hQi⟩
        · exact absurd hz HZ.out
        · have hQ1 := hQ.rd
          have HE : Hid (Q = N) := hQi.same HNI.out
          clear hQ hQi
          go_wp2_with (go_at_call 17; fail)
          refine (E_nil0 (hg.below kk)).mono ?_
          rintro e w' ⟨rfl, b'⟩
          replace kk := below_tr kk b'
          replace hN1 := hN1.below b'
          replace hQ1 := hQ1.below b'
          clear b'
          go_wp2_with (go_at_call 21; fail)
          refine (Rows_eq hQ1 hN1 HE.out).mono ?_
          rintro e w' ⟨rfl, b'⟩
          replace kk := below_tr kk b'
          go_wp2
          go_ret
          exact ⟨rfl, kk⟩
    · have z2 : ((k : Int) != (m : Int)) = true := bne_iff_ne.2 (by omega)
      go_wp2_with (go_at_call 58; fail)
      refine (Change_err2 (hM.below kk) HQ.out (hu.below kk) (hv.below kk) (.inr h2)).mono ?_
      rintro e w' ⟨rfl, b'⟩
      replace kk := below_tr kk b'
      clear b'
      go_wp2_with (go_at_call 17; fail)
      refine (E_same (hg.below kk)).mono ?_
      rintro e w' ⟨rfl, b'⟩
      replace kk := below_tr kk b'
      clear b'
      go_wp2_with (go_at_call 21; fail)
      refine (Rows_none _).mono ?_
      rintro e w' ⟨rfl, b'⟩
      replace kk := below_tr kk b'
      clear b'
      go_wp2
      go_ret
      exact ⟨rfl, kk⟩
  · have z1 : ((m : Int) != (n : Int)) = true := bne_iff_ne.2 (by omega)
    go_wp2_with (go_at_call 58; fail)
    refine (Change_err2 (hM.below kk) HQ.out (hu.below kk) (hv.below kk) (.inl h1)).mono ?_
    rintro e w' ⟨rfl, b'⟩
    replace kk := below_tr kk b'
    clear b'
    go_wp2_with (go_at_call 17; fail)
    refine (E_same (hg.below kk)).mono ?_
    rintro e w' ⟨rfl, b'⟩
    replace kk := below_tr kk b'
    clear b'
    go_wp2_with (go_at_call 21; fail)
    refine (Rows_none _).mono ?_
    rintro e w' ⟨rfl, b'⟩
    replace kk := below_tr kk b'
    clear b'
    go_wp2
    go_ret
    exact ⟨rfl, kk⟩
set_option maxHeartbeats 4000000 in
set_option maxRecDepth 100000 in
theorem invSays_ok (hg : ErrT w) (hM : RdM w a n ca M) (hu : RdI w b m cb u) (hv : RdI w d k cd v) (HQ : Hid (squareR 5 0 9972 M = none)) (HG : Hid (Good n n M)) (HD : Hid (det n (mx M) % 9973 ≠ 0)) :
    Calls Tryd.prog 11 #[.slice a n ca, .slice b m cb, .slice d k cd] w fun e w' => e = .returned (.bool true) ∧ Below w.heap.size w w' := by
  have lm := hM.len_max
  have lu := hu.len_max
  have lv := hv.len_max
  have C0 : Hid (Calls Tryd.prog 34 #[.slice a n ca, .int .i64 5, .int .i64 0, .int .i64 9972] w fun e w' => e = .returned (.int .i64 0) ∧ Below w.heap.size w w') := by
    have := R_Square_any 5 0 9972 hM
    rw [HQ.out] at this
    exact this
  have C1 := fun w' (q : Below w.heap.size w w') => R_DetMod_any n (hM.below q) HG.out.dm HG.out.ent (by have := HG.out.n1; omega)
  have n1 := HG.out.n1
  obtain ⟨D, hD⟩ : ∃ D, D = det n (mx M) % 9973 := ⟨_, rfl⟩
  simp only [← hD] at C1
  have z1 : (D == 0) = false := beq_eq_false_iff_ne.2 (by rw [hD]; exact HD.out)
  have C1 := Lib.hid C1
  clear hD
  go_enter Tryd.func11, Tryd.ntmps11
  go_wp2_with (first | (go_at_call 34; (with_reducible refine C0.out.mono ?_); rintro e w1 ⟨rfl, kk⟩) | (go_at_call 38; (with_reducible refine (C1.out _ kk).mono ?_); rintro e w2 ⟨rfl, b2⟩; replace kk := below_tr kk b2; clear b2) | (go_at_call 56; fail) | (go_at_call 55; fail))
  clear C0 C1 z1
  refine (M_Inverse_any (hM.below kk) HG.out HD.out).mono ?_
  rintro e w' ⟨aW, cW, W, rfl, hW, hWi, b'⟩
  replace kk := below_tr kk b'
  have HWI := Lib.hid hWi
  clear b' hWi
  go_wp2_with (go_at_call 56; fail)
  refine (inv_Of_ok (hM.below kk) HG.out HD.out).mono ?_
  rintro e w' ⟨aX, cX, X, rfl, hX, hXi, b'⟩
  replace kk := below_tr kk b'
  replace hW := hW.below b'
  have hX1 := hX.rd
  have HE : Hid (X = W) := hXi.same HWI.out
  clear b' hX hXi
  go_wp2_with (go_at_call 17; fail)
  refine (E_nil0 (hg.below kk)).mono ?_
  rintro e w' ⟨rfl, b'⟩
  replace kk := below_tr kk b'
  replace hW := hW.below b'
  replace hX1 := hX1.below b'
  clear b'
  go_wp2_with (go_at_call 21; fail)
  refine (Rows_eq hX1 hW HE.out).mono ?_
  rintro e w' ⟨rfl, b'⟩
  replace kk := below_tr kk b'
  clear b' hW hX1
  by_cases h1 : m = n
  · subst h1
    have z1 : ((m : Int) != (m : Int)) = false := bne_eq_false_iff_eq.2 rfl
    by_cases h2 : k = m
    · subst h2
      have C1 := fun w' (q : Below w.heap.size w w') => R_All_any 0 9972 (hu.below q)
      have C2 := fun w' (q : Below w.heap.size w w') => R_All_any 0 9972 (hv.below q)
      rcases hal : allB 0 9972 u with _ | _
      · simp only [hal] at C1
        have C1 := Lib.hid C1
        have HB : Hid ((anyB 0 9972 u || anyB 0 9972 v) = true) := by unfold Hid; rw [allB_any] at hal; simp only [Bool.not_eq_false'] at hal; rw [hal, Bool.true_or]
        clear C2 hal
        go_wp2_with (first | (go_at_call 50; (with_reducible refine (C1.out _ kk).mono ?_); rintro e w' ⟨rfl, rfl⟩) | (go_at_call 58; fail))
        refine (Change_err3 (hM.below kk) HQ.out (hu.below kk) (hv.below kk) HB.out).mono ?_
        rintro e w' ⟨rfl, b'⟩
        replace kk := below_tr kk b'
        clear b'
        go_wp2_with (go_at_call 17; fail)
        refine (E_same (hg.below kk)).mono ?_
        rintro e w' ⟨rfl, b'⟩
        replace kk := below_tr kk b'
        clear b'
        go_wp2_with (go_at_call 21; fail)
        refine (Rows_none _).mono ?_
        rintro e w' ⟨rfl, b'⟩
        replace kk := below_tr kk b'
        clear b'
        go_wp2
        go_ret
        exact ⟨rfl, kk⟩
      rcases hal2 : allB 0 9972 v with _ | _
      · simp only [hal] at C1
        simp only [hal2] at C2
        have C1 := Lib.hid C1
        have C2 := Lib.hid C2
        have HB : Hid ((anyB 0 9972 u || anyB 0 9972 v) = true) := by unfold Hid; rw [allB_any] at hal2; simp only [Bool.not_eq_false'] at hal2; rw [hal2, Bool.or_true]
        clear hal hal2
        go_wp2_with (first | (go_at_call 50; (first | ((with_reducible refine (C1.out _ kk).mono ?_); rintro e w' ⟨rfl, rfl⟩) | ((with_reducible refine (C2.out _ kk).mono ?_); rintro e w' ⟨rfl, rfl⟩))) | (go_at_call 58; fail))
        refine (Change_err3 (hM.below kk) HQ.out (hu.below kk) (hv.below kk) HB.out).mono ?_
        rintro e w' ⟨rfl, b'⟩
        replace kk := below_tr kk b'
        clear b'
        go_wp2_with (go_at_call 17; fail)
        refine (E_same (hg.below kk)).mono ?_
        rintro e w' ⟨rfl, b'⟩
        replace kk := below_tr kk b'
        clear b'
        go_wp2_with (go_at_call 21; fail)
        refine (Rows_none _).mono ?_
        rintro e w' ⟨rfl, b'⟩
        replace kk := below_tr kk b'
        clear b'
        go_wp2
        go_ret
        exact ⟨rfl, kk⟩
      simp only [hal] at C1
      simp only [hal2] at C2
      have C1 := Lib.hid C1
      have C2 := Lib.hid C2
      have IU := Lib.hid (allB_in hal)
      have IV := Lib.hid (allB_in hal2)
      clear hal hal2
      go_wp2_with (first | (go_at_call 50; (first | ((with_reducible refine (C1.out _ kk).mono ?_); rintro e w' ⟨rfl, rfl⟩) | ((with_reducible refine (C2.out _ kk).mono ?_); rintro e w' ⟨rfl, rfl⟩))) | (go_at_call 57; fail))
      clear C1 C2
      refine (M_Change_any (hM.below kk) HG.out (hu.below kk) (hv.below kk) IU.out IV.out).mono ?_
      rintro e w' ⟨b', hor⟩
      replace kk := below_tr kk b'
      clear b'
      rcases hor with ⟨hz, rfl⟩ | ⟨hz, aN, cN, N, rfl, hN, hNi⟩
      · have HZ := Lib.hid hz
        clear hz
        go_wp2_with (go_at_call 58; fail)
        refine (Change_ok (hM.below kk) HG.out (hu.below kk) (hv.below kk) IU.out IV.out).mono ?_
        rintro e w' ⟨b', hor⟩
        replace kk := below_tr kk b'
        clear b'
        rcases hor with ⟨_, rfl⟩ | ⟨hz, _⟩
        · go_wp2_with (go_at_call 17; fail)
          refine (E_same (hg.below kk)).mono ?_
          rintro e w' ⟨rfl, b'⟩
          replace kk := below_tr kk b'
          clear b'
          go_wp2_with (go_at_call 21; fail)
          refine (Rows_none _).mono ?_
          rintro e w' ⟨rfl, b'⟩
          replace kk := below_tr kk b'
          clear b'
          go_wp2
          go_ret
          exact ⟨rfl, kk⟩
        · exact absurd HZ.out hz
      · have HZ := Lib.hid hz
        have hN1 := hN.rd
        have HNI := Lib.hid hNi
        clear hz hN hNi
        go_wp2_with (go_at_call 58; fail)
        refine (Change_ok (hM.below kk) HG.out (hu.below kk) (hv.below kk) IU.out IV.out).mono ?_
        rintro e w' ⟨b', hor⟩
        replace hN1 := hN1.below b'
        replace kk := below_tr kk b'
        clear b'
        rcases hor with ⟨hz, _⟩ | ⟨_, aQ, cQ, Q, rfl, hQ, hQi⟩
        · exact absurd hz HZ.out
        · have hQ1 := hQ.rd
          have HE : Hid (Q = N) := hQi.same HNI.out
          clear hQ hQi
          go_wp2_with (go_at_call 17; fail)
          refine (E_nil0 (hg.below kk)).mono ?_
          rintro e w' ⟨rfl, b'⟩
          replace kk := below_tr kk b'
          replace hN1 := hN1.below b'
          replace hQ1 := hQ1.below b'
          clear b'
          go_wp2_with (go_at_call 21; fail)
          refine (Rows_eq hQ1 hN1 HE.out).mono ?_
          rintro e w' ⟨rfl, b'⟩
          replace kk := below_tr kk b'
          go_wp2
          go_ret
          exact ⟨rfl, kk⟩
    · have z2 : ((k : Int) != (m : Int)) = true := bne_iff_ne.2 (by omega)
      go_wp2_with (go_at_call 58; fail)
      refine (Change_err2 (hM.below kk) HQ.out (hu.below kk) (hv.below kk) (.inr h2)).mono ?_
      rintro e w' ⟨rfl, b'⟩
      replace kk := below_tr kk b'
      clear b'
      go_wp2_with (go_at_call 17; fail)
      refine (E_same (hg.below kk)).mono ?_
      rintro e w' ⟨rfl, b'⟩
      replace kk := below_tr kk b'
      clear b'
      go_wp2_with (go_at_call 21; fail)
      refine (Rows_none _).mono ?_
      rintro e w' ⟨rfl, b'⟩
      replace kk := below_tr kk b'
      clear b'
      go_wp2
      go_ret
      exact ⟨rfl, kk⟩
  · have z1 : ((m : Int) != (n : Int)) = true := bne_iff_ne.2 (by omega)
    go_wp2_with (go_at_call 58; fail)
    refine (Change_err2 (hM.below kk) HQ.out (hu.below kk) (hv.below kk) (.inl h1)).mono ?_
    rintro e w' ⟨rfl, b'⟩
    replace kk := below_tr kk b'
    clear b'
    go_wp2_with (go_at_call 17; fail)
    refine (E_same (hg.below kk)).mono ?_
    rintro e w' ⟨rfl, b'⟩
    replace kk := below_tr kk b'
    clear b'
    go_wp2_with (go_at_call 21; fail)
    refine (Rows_none _).mono ?_
    rintro e w' ⟨rfl, b'⟩
    replace kk := below_tr kk b'
    clear b'
    go_wp2
    go_ret
    exact ⟨rfl, kk⟩
theorem invSays_walk (hg : ErrT w) (hM : RdM w a n ca M) (_ : ∀ r ∈ M, Fit r) (hu : RdI w b m cb u) (_ : Fit u) (hv : RdI w d k cd v) (_ : Fit v) :
    Calls Tryd.prog 11 #[.slice a n ca, .slice b m cb, .slice d k cd] w fun e w' => e = .returned (.bool true) ∧ Below w.heap.size w w' := by
  rcases hq : squareR 5 0 9972 M with _ | x
  · obtain ⟨g1, g2⟩ := squareR_grounds hq
    have GM := Good.of hM.len_eq g1
    rw [g2, hM.len_eq] at GM
    by_cases hd : det n (mx M) % 9973 = 0
    · exact invSays_none hg hM hu hv hq GM hd
    · exact invSays_ok hg hM hu hv hq GM hd
  · exact invSays_err hg hM hu hv hq
end
end Go.Proofs.YtkielldinghmbaaDoor

/-
  The reference's Stairs walked: a matrix in steps, and where these begin. The last row with a number other than 0 is the pivot.
  A matrix of a call's own whose rows lie in memory that others own: append of a row that is part of another one. No program in sight.
-/
import Derived.Test.YtkielldinghmbaaDoorRows
import Derived.Deep.QuietTactic
import Derived.BigQuiet
import Derived.StillTailTactics
import Derived.Test.YtkielldinghmbaaDoorMg0
import Derived.Test.YtkielldinghmbaaDoorMg1
import Derived.Test.YtkielldinghmbaaDoorMg2
import Derived.Test.YtkielldinghmbaaDoorMg4
import Derived.Test.YtkielldinghmbaaDoorMg12
import Derived.Test.YtkielldinghmbaaDoorMg13
namespace Go.Proofs.YtkielldinghmbaaDoor
open Go.RowKit Go.Rk

/-- A slice's block is none of a matrix's. -/
def BSep (v : Value) (g : Nat) (D : Nat → Nat) (n : Nat) : Prop := ∀ b, v.ownBlock = some b → b ≠ g ∧ ∀ i, i < n → b ≠ D i
theorem _root_.Go.Rk.OwMD.grownElse {w w' : World} {B T E g : Nat} {D C : Nat → Nat} {n cap : Nat} {M : List (List Int)} {row : Option Nat} (h : OwMD w B T E g D C n cap M) (hg : w.grownBy w' row) (hr : ∀ r, row = some r → r ≠ g ∧ ∀ i, i < n → r ≠ D i) : OwMD w' B T E g D C n cap M :=
  ⟨h.len_eq, h.outer.kept hg (.inr fun e => (hr g e.symm).1 rfl), fun i hi => (h.rows i hi).grown hg (.inr fun e => (hr (D i) e.symm).2 i hi rfl), h.inj⟩

theorem _root_.Go.Rk.OwI.setSep {w : World} {B E : Nat} {a : Option Addr} {n cap : Nat} {l : List Int} {p : Addr} (h : OwI w B E a n cap l) (hp : ∀ b, (Value.slice a n cap).ownBlock = some b → b ≠ p.block) (u : Value) : OwI (w.setCell p u) B E a n cap l :=
  ⟨h.len_eq, ownsRow_same h.own fun b hb => Below.heap_setCell _ _ _ _ (hp b hb)⟩

/-- The places so far cleared: the rows before i, and of row i the places before j. -/
def stairP (M : List (List Int)) (t q : Nat) (i j r s : Nat) : Int := if r ≠ t ∧ (r < i ∨ (r = i ∧ s < j)) then (en M r s - en M r q * en M t s) % 9973 else en M r s

set_option maxHeartbeats 4000000 in
set_option maxRecDepth 100000 in
theorem R_Stairs_any {a : Option Addr} {n ca c cols : Nat} {M : List (List Int)} {w : World} (h : RdM w a n ca M) (hd : Dm n c M) (he : EntR 0 9972 n c M) (h1 : 1 ≤ n) (hn : n ≤ 1000) (hc : c ≤ 1000) (hcc : cols ≤ c) (hc1 : 1 ≤ c) :
    Calls Tryd.prog 30 #[.slice a n ca, .int .i64 cols] w fun e w' => ∃ ao co ap cp P ps, e = .returned (.tuple #[.slice ao n co, .slice ap ps.length cp]) ∧ RdM w' ao n co P ∧ RdI w' ap ps.length cp ps ∧ GInv n c (mx M) cols P ps ∧ Below w.heap.size w w' := by
  have HIT := Lib.hid intTy
  have S0 := Lib.hid (GInv.start hd he)
  have C := Lib.hid (R_Copy_any h hn (fun k hk => by rw [hd.2 k hk]; exact hc))
  have HDM := Lib.hid hd
  clear he hd
  go_enter Tryd.func30, Tryd.ntmps30
  go_wp2_with (first | (go_at_call 60; (with_reducible refine C.out.mono ?_); rintro e w1 ⟨z, cz, rfl, ho, hb⟩))
  obtain ⟨g, D, C_, hzz, hd1⟩ := ho.named (by omega) fun i hi => by rw [HDM.out.2 i hi]; omega
  subst hzz
  clear ho C HDM
  go_loopw [7, 8] (fun s v wr => ∃ (q : Nat) (ps : List Int) (ab : Option Addr) (cb : Nat) (D C_ : Nat → Nat) (P : List (List Int)), q ≤ cols ∧ v = .int .i64 q ∧ s = .slice ab ps.length cb ∧ OwI wr w.heap.size 3 ab ps.length cb ps ∧ OwMD wr w.heap.size 32 3 g D C_ n cz P ∧ Hid (GInv n c (mx M) q P ps) ∧ BSep (.slice ab ps.length cb) g D n ∧ Below w.heap.size w wr) (fun _ v _ => cols - (intOf v).toNat)
  case atStart => exact ⟨0, [], none, 0, D, C_, M, Nat.zero_le _, rfl, rfl, OwI.nil _ _ _, hd1, S0, (fun b h => by cases h), hb⟩
  case round =>
    clear hd1 hb S0
    obtain ⟨q, ps, ab, cb, D, C_, P, hq, rfl, rfl, hbg, hdm, HG, hsp, hb⟩ := hrel
    obtain ⟨wo, rfl⟩ : ∃ x, x = wr := ⟨_, rfl⟩
    by_cases hqc : q < cols
    · have i1 : (q : Int) < (cols : Int) := by omega
      have i2 : (q : Int) < (c : Int) := by omega
      have hle := HG.out.st.le
      have hqc2 : q < c := by omega
      obtain ⟨top, htop⟩ : ∃ top, top = ps.length := ⟨_, rfl⟩
      rw [← htop] at hbg hsp hle ⊢
      have HT := Lib.hid htop
      clear htop
      go_wp2
      go_loop [10, 11] (fun at_ v => ∃ i : Nat, top ≤ i ∧ i ≤ n ∧ v = .int .i64 i ∧ ((at_ = .int .i64 (-1) ∧ Hid (∀ r, top ≤ r → r < i → en P r q = 0)) ∨ ∃ k : Nat, at_ = .int .i64 k ∧ top ≤ k ∧ k < i ∧ Hid (en P k q ≠ 0))) (fun _ v => n - (intOf v).toNat)
      case atStart => exact ⟨top, Nat.le_refl _, hle, rfl, .inl ⟨rfl, fun r h1 h2 => absurd h2 (by omega)⟩⟩
      case round =>
        obtain ⟨i, hi0, hi, rfl, hor⟩ := hrel
        by_cases hin : i < n
        · have j1 : (i : Int) < (n : Int) := by omega
          have x1 := hdm.cellO hin
          rw [HG.out.dm.2 i hin] at x1
          have x2 := hdm.cellI hin (j := q) (by rw [HG.out.dm.2 i hin]; exact hqc2)
          by_cases hz : en P i q = 0
          · rw [hz] at x2
            have HZ := Lib.hid hz
            clear hz
            rcases hor with ⟨rfl, H0⟩ | ⟨k, rfl, c1, c2, H0⟩
            · go_wp2
              go_round
              case rel => exact ⟨i + 1, by omega, by omega, by go_num, .inl ⟨rfl, fun r h1 h2 => by
                rcases Nat.lt_or_ge r i with h3 | h3
                · exact H0.out r h1 h3
                · obtain rfl : r = i := by omega
                  exact HZ.out⟩⟩
              case measure => simp [intOf]; omega
            · go_wp2
              go_round
              case rel => exact ⟨i + 1, by omega, by omega, by go_num, .inr ⟨k, rfl, c1, by omega, H0⟩⟩
              case measure => simp [intOf]; omega
          · have HZ := Lib.hid hz
            obtain ⟨v, hv⟩ : ∃ v, v = en P i q := ⟨_, rfl⟩
            rw [← hv] at x2 hz
            have z1 : (v != 0) = true := bne_iff_ne.2 hz
            clear hz hv hor
            go_wp2
            go_round
            case rel => exact ⟨i + 1, by omega, by omega, by go_num, .inr ⟨i, rfl, hi0, by omega, HZ⟩⟩
            case measure => simp [intOf]; omega
        · obtain rfl : n = i := by omega
          rcases hor with ⟨rfl, H0⟩ | ⟨k, rfl, c1, c2, H0⟩
          · have HG2 : Hid (GInv n c (mx M) (q + 1) P ps) := HG.out.pass (by rw [← HT.out]; exact H0.out)
            go_wp2
            go_roundw
            case rel => exact ⟨q + 1, ps, ab, cb, D, C_, P, by omega, by go_num, by rw [← HT.out], by rw [← HT.out]; exact hbg, hdm, HG2, by rw [← HT.out]; exact hsp, hb⟩
            case measure => simp [intOf]; omega
          · have c1_ := c1
            have z1 : ¬ (k : Int) < 0 := by omega
            have j1 : (k : Int) < (n : Int) := by omega
            have htn : top < n := by omega
            have j2 : (top : Int) < (n : Int) := by omega
            have x1 := hdm.cellO c2
            rw [HG.out.dm.2 k c2] at x1
            have x2 := hdm.cellI c2 (j := q) (by rw [HG.out.dm.2 k c2]; exact hqc2)
            have x3 := hdm.cellO htn
            rw [HG.out.dm.2 top htn] at x3
            have f1 := hdm.frozenO k
            have be := HG.out.ent k q c2 hqc2
            have HX := Lib.hid (fun j (hj : j < c) => hdm.cellI c2 (j := j) (by rw [HG.out.dm.2 k c2]; exact hj))
            have hDk := hdm.lowI c2
            have hne : D k ≠ g := hdm.neO matTy.ne c2
            obtain ⟨V, hV⟩ : ∃ V, V = en P k q := ⟨_, rfl⟩
            rw [← hV] at x2 be
            have hgl := hdm.lowO
            have x4 : (wo.setCell ⟨g, k, none⟩ (.slice (some ⟨D top, 0, none⟩) c (C_ top))).cell? ⟨D k, q, none⟩ = some (.int .i64 V) := by
              rw [World.cell?_setCell_other _ _ _ _ (by intro e; injection e with e1; exact hne (by first | exact e1 | exact e1.symm))]; exact x2
            obtain ⟨ov, hov⟩ : ∃ ov, ov = powm V 9971 := ⟨_, rfl⟩
            have hovb : 0 ≤ ov ∧ ov ≤ 9972 := by rw [hov]; exact powm_in _ _
            have HOV : Hid (powm (en P k q) 9971 = ov) := by rw [hov, hV]; exact rfl
            have HV0 : Hid (en P k q ≠ 0) := H0
            have CP : Hid (∀ w, Calls Tryd.prog 72 #[.int .i64 V, .int .i64 9971] w fun e w' => e = .returned (.int .i64 ov) ∧ w = w') := fun w => by rw [hov]; exact R_Pow_any 9971 9971 V w (Nat.le_refl _) (by omega) be
            clear hV hov
            go_wp2_with (first | (go_at_call 72; (with_reducible refine (CP.out _).mono ?_); rintro e w' ⟨rfl, rfl⟩))
            clear x1 x2 x4 f1 be
            have HX2 : Hid (∀ j, j < c → (wo.setCell ⟨g, k, none⟩ (.slice (some ⟨D top, 0, none⟩) c (C_ top))).cell? ⟨D k, j, none⟩ = some (.int .i64 (en P k j))) := fun j hj => by
              rw [World.cell?_setCell_other _ _ _ _ (by intro e; injection e with e1; exact hne (by first | exact e1 | exact e1.symm))]; exact HX.out j hj
            have hbs := hb.setCell (p := ⟨g, k, none⟩) hgl.1 (.slice (some ⟨D top, 0, none⟩) c (C_ top))
            have hss : wo.heap.size = (wo.setCell ⟨g, k, none⟩ (.slice (some ⟨D top, 0, none⟩) c (C_ top))).heap.size := by simp
            have f2 : (wo.setCell ⟨g, k, none⟩ (.slice (some ⟨D top, 0, none⟩) c (C_ top))).frozen? ⟨g, top, none⟩ = false := (World.frozen?_setCell _ _ _ _).trans (hdm.frozenO top)
            have y5 : (wo.setCell ⟨g, k, none⟩ (.slice (some ⟨D top, 0, none⟩) c (C_ top))).cell? ⟨g, top, none⟩ = some (.slice (some ⟨D top, 0, none⟩) c (C_ top)) := by
              by_cases e : k = top
              · subst e; exact World.cell?_setCell_same _ _ _ x3
              · rw [World.cell?_setCell_other _ _ _ _ (by intro e2; injection e2 with _ e1; exact e (by first | exact e1 | exact e1.symm))]; exact x3
            have HPV : Hid (∀ {w2 : World} {p cr : Nat} {l : List Int}, Below wo.heap.size (wo.setCell ⟨g, k, none⟩ (.slice (some ⟨D top, 0, none⟩) c (C_ top))) w2 → OwI w2 wo.heap.size 3 (some ⟨p, 0, none⟩) l.length cr l → OwMD (w2.setCell ⟨g, top, none⟩ (.slice (some ⟨p, 0, none⟩) l.length cr)) w.heap.size 32 3 g (pivF D k top p) (pivF C_ k top cr) n cz (pivL P k top l)) := fun h1 h2 => hdm.pivot matTy.ne c2 htn (by rw [HG.out.dm.2 top htn]; exact h1) h2 hb.size
            have hDlt : Hid (∀ i, i < n → D i < wo.heap.size) := fun i hi => (hdm.lowI hi).2
            have hbgS : OwI (wo.setCell ⟨g, k, none⟩ (.slice (some ⟨D top, 0, none⟩) c (C_ top))) w.heap.size 3 ab top cb ps := OwI.setSep hbg (fun b hb => (hsp b hb).1) _
            have hbglt : Hid (∀ b, (Value.slice ab top cb).ownBlock = some b → b < wo.heap.size) := fun b hb => (hbg.own.lt b hb).2
            have hglt := hgl.2
            clear hdm hbg HX x3 hb
            generalize (wo.setCell ⟨g, k, none⟩ (.slice (some ⟨D top, 0, none⟩) c (C_ top))) = ws at *
            have HSS := Lib.hid hss
            have hs0 : w.heap.size ≤ wo.heap.size := by rw [hss]; exact hbs.size
            clear hss
            go_loopw [14, 15] (fun s v wt => ∃ (j : Nat) (a1 : Option Addr) (c1 : Nat), j ≤ c ∧ v = .int .i64 j ∧ s = .slice a1 j c1 ∧ OwI wt wo.heap.size 3 a1 j c1 (rowF (fun j => en P k j * ov % 9973) j) ∧ Below wo.heap.size ws wt) (fun _ v _ => c - (intOf v).toNat)
            case atStart => exact ⟨0, none, 0, Nat.zero_le _, rfl, rfl, OwI.nil _ _ _, Below.refl _ _⟩
            case round =>
              obtain ⟨j, a1, c1, hj, rfl, rfl, ho1, hb1⟩ := hrel
              by_cases hjc : j < c
              · have y1 := hb1.keep hDk.2 (HX2.out j hjc)
                have m1 := HG.out.ent k j c2 hjc
                have p1 := mul_bd m1 hovb
                have i3 : (j : Int) < (c : Int) := by omega
                have hs1 := hb1.size
                rw [← HSS.out] at hs1
                go_wp2_with (first | (go_at_call 47; refine (R_Mod_any _ _ (by omega) (by omega)).mono ?_; rintro e w' ⟨rfl, rfl⟩) | (at_builtin; refine wpList_push_int HIT.out rfl (.tmp 68) (.tmp 76) rfl rfl rfl (ho1.alloc _) (z := en P k j * ov % 9973) (by simp) (by decide) (by decide) (by omega) (by simp; omega) ?_; intro a4 c4 w4 ho4 hg4))

                have hb4 := below_grown (hb1.alloc (by omega) (.cells #[.int .i64 (en P k j * ov % 9973)] 3)) (ho1.alloc _) (by simp; omega) hg4
                go_roundw
                case rel => exact ⟨j + 1, a4, c4, by omega, by go_num, rfl, by rw [rowF_succ]; exact ho4, hb4⟩
                case measure => simp [intOf]; omega
              · obtain rfl : c = j := by omega
                obtain ⟨p, hz1, hp1, hp2, _, _⟩ := ho1.at (by omega)
                subst hz1
                have y6 := hb1.keep hglt y5
                have f6 := (hb1.frozen (p := ⟨g, top, none⟩) hglt).trans f2
                have hP4 := HPV.out hb1 (by rw [rowF_len]; exact ho1)
                rw [rowF_len] at hP4
                have hbg1 : OwI wr w.heap.size 3 ab top cb ps := hbgS.below (by rw [← HSS.out]; exact hb1)
                have hbg2 : OwI (wr.setCell ⟨g, top, none⟩ (.slice (some ⟨p, 0, none⟩) c c1)) w.heap.size 3 ab top cb ps := OwI.setSep hbg1 (fun b hb => (hsp b hb).1) _
                have hb2 := (hbs.trans (hb1.mono hs0)).setCell (p := ⟨g, top, none⟩) hgl.1 (.slice (some ⟨p, 0, none⟩) c c1)
                have HI : Hid (GInv n c (mx M) q (swapL P top k) ps) := by rw [HT.out]; exact HG.out.swap (by rw [← HT.out]; exact c1_) c2
                have HPN : Hid (en (swapL P top k) top q ≠ 0) := by
                  unfold Hid
                  rw [en_swap HG.out.dm htn c2]
                  by_cases e : top = k
                  · rw [if_pos e, e]; exact HV0.out
                  · rw [if_neg e, if_pos rfl]; exact HV0.out
                have HOQ : Hid (powm (en (swapL P top k) top q) 9971 = ov) := by
                  unfold Hid
                  rw [← HOV.out, en_swap HG.out.dm htn c2]
                  by_cases e : top = k
                  · rw [if_pos e, e]
                  · rw [if_neg e, if_pos rfl]
                have hi0 : Hid (IsR n c (pivL P k top (rowF (fun s => en P k s * ov % 9973) c)) (clearP (swapL P top k) top q ov 0 0)) := by
                  have hkl : k < P.length := by rw [HG.out.dm.1]; exact c2
                  have htl : top < P.length := by rw [HG.out.dm.1]; exact htn
                  refine ⟨⟨by rw [pivL_len]; exact HG.out.dm.1, fun r hr => ?_⟩, fun r s hr hs => ?_⟩
                  · rw [rowOf_pivL hkl htl]
                    (repeat' split) <;> first | exact rowF_len _ _ | exact HG.out.dm.2 _ (by assumption)
                  · unfold clearP
                    rw [if_neg (by omega)]
                    unfold scaleE
                    have e1 : en (pivL P k top (rowF (fun s => en P k s * ov % 9973) c)) r s = if r = top then en P k s * ov % 9973 else if r = k then en P top s else en P r s := by
                      unfold en
                      rw [rowOf_pivL hkl htl]
                      by_cases e : r = top
                      · rw [if_pos e, if_pos e, rowF_ix hs]
                      · rw [if_neg e, if_neg e]
                        by_cases e2 : r = k
                        · rw [if_pos e2, if_pos e2]
                        · rw [if_neg e2, if_neg e2]
                    rw [e1, en_swap HG.out.dm htn c2, en_swap HG.out.dm htn c2]
                    by_cases e : r = top
                    · rw [if_pos e, if_pos e]
                      by_cases e2 : top = k
                      · rw [if_pos e2, e2]
                      · rw [if_neg e2, if_pos rfl]
                    · rw [if_neg e, if_neg e]
                      by_cases e2 : r = k
                      · rw [if_pos e2, if_pos e2]
                      · rw [if_neg e2, if_neg e2, if_neg e]
                have hDp : pivF D k top p top = p := by unfold pivF; rw [if_pos rfl]
                have hsp4 : BSep (.slice ab top cb) g (pivF D k top p) n := fun b hb => ⟨(hsp b hb).1, fun i hi => by
                  have h1 := hbglt.out b hb
                  unfold pivF
                  (repeat' split)
                  · omega
                  · exact (hsp b hb).2 _ htn
                  · exact (hsp b hb).2 _ hi⟩
                go_wp2
                clear y5 y6 f2 f6 HX2 HPV hDlt hbgS hbglt hbs hb1 hbg1 ho1 hsp HV0 HSS
                generalize (wr.setCell ⟨g, top, none⟩ (.slice (some ⟨p, 0, none⟩) c c1)) = w4 at *
                generalize pivF D k top p = D4 at *
                generalize pivF C_ k top c1 = C4 at *
                generalize pivL P k top (rowF (fun s => en P k s * ov % 9973) c) = P4 at *
                generalize swapL P top k = Q at *
                go_loopw [16] (fun v wt => ∃ (i : Nat) (P9 : List (List Int)), i ≤ n ∧ v = .int .i64 i ∧ OwMD wt w.heap.size 32 3 g D4 C4 n cz P9 ∧ OwI wt w.heap.size 3 ab top cb ps ∧ Hid (IsR n c P9 (clearP Q top q ov i 0)) ∧ Below w.heap.size w wt) (fun v _ => n - (intOf v).toNat)
                case atStart => exact ⟨0, P4, Nat.zero_le _, rfl, hP4, hbg2, hi0, hb2⟩
                case round =>
                  clear hP4 hbg2 hi0 hb2
                  obtain ⟨i, P9, hin, rfl, hd, hbg, hi, hb⟩ := hrel
                  by_cases hlt : i < n
                  · have x1 := hd.cellO hlt
                    rw [hi.out.1.2 i hlt] at x1
                    have x2 := hd.cellI hlt (j := q) (by rw [hi.out.1.2 i hlt]; exact hqc2)
                    have b3 : (i : Int) < (n : Int) := by omega
                    have nx : ∀ {P : List (List Int)}, IsR n c P (clearP Q top q ov i c) → IsR n c P (clearP Q top q ov (i + 1) 0) := fun h => h.congr fun a b _ h4 => by
                      unfold clearP
                      by_cases e : a < i ∨ (a = i ∧ b < c)
                      · rw [if_pos e, if_pos (by omega)]
                      · rw [if_neg e, if_neg (by omega)]
                    by_cases hit : i = top
                    · have z3 : ((i : Int) != (top : Int)) = false := bne_eq_false_iff_eq.2 (by omega)
                      have HK := Lib.hid hit
                      clear hit
                      go_wp2
                      go_roundw
                      case rel => exact ⟨i + 1, P9, by omega, by go_num, hd, hbg, nx (hi.out.congr fun a b h3 h4 => by
                        unfold clearP
                        by_cases e : a < i
                        · rw [if_pos (by omega), if_pos (by omega)]
                        · by_cases e2 : a = i
                          · rw [if_neg (by omega), if_pos (by omega)]
                            exact (clearO_same HI.out.ent h3 h4 (.inl (by rw [e2, HK.out]))).symm
                          · rw [if_neg (by omega), if_neg (by omega)]), hb⟩
                      case measure => simp [intOf]; omega
                    · have z3 : ((i : Int) != (top : Int)) = true := bne_iff_ne.2 (by omega)
                      have e1 : en P9 i q = en Q i q := by
                        rw [hi.out.2 i q hlt hqc2]
                        unfold clearP scaleE
                        rw [if_neg (by omega), if_neg hit]
                      rw [e1] at x2
                      have HK := Lib.hid hit
                      clear hit e1
                      have m3 := HI.out.ent i q hlt hqc2
                      obtain ⟨by_, hBy⟩ : ∃ by_, by_ = en Q i q := ⟨_, rfl⟩
                      rw [← hBy] at m3 x2
                      have HBY := Lib.hid hBy
                      clear hBy
                      go_wp2
                      clear x1 x2
                      go_loopw [18] (fun v wt => ∃ (s : Nat) (P9 : List (List Int)), s ≤ c ∧ v = .int .i64 s ∧ OwMD wt w.heap.size 32 3 g D4 C4 n cz P9 ∧ OwI wt w.heap.size 3 ab top cb ps ∧ Hid (IsR n c P9 (clearP Q top q ov i s)) ∧ Below w.heap.size w wt) (fun v _ => c - (intOf v).toNat)
                      case atStart => exact ⟨0, P9, Nat.zero_le _, rfl, hd, hbg, hi, hb⟩
                      case round =>
                        clear hd hbg hi hb
                        obtain ⟨s, P9, hsc, rfl, hd, hbg, hi, hb⟩ := hrel
                        by_cases hsk : s < c
                        · have x1 := hd.cellO hlt
                          rw [hi.out.1.2 i hlt] at x1
                          have x2 := hd.cellI hlt (j := s) (by rw [hi.out.1.2 i hlt]; exact hsk)
                          have x5 := hd.cellI htn (j := s) (by rw [hi.out.1.2 top htn]; exact hsk)
                          have x3 := hd.frozenI hlt (by rw [hi.out.1.2 i hlt]; omega) s
                          rw [hDp] at x5
                          have e1 : en P9 i s = en Q i s := by
                            rw [hi.out.2 i s hlt hsk]
                            unfold clearP scaleE
                            rw [if_neg (by omega), if_neg HK.out]
                          have e2 : en P9 top s = en Q top s * ov % 9973 := by
                            rw [hi.out.2 top s htn hsk]
                            unfold clearP clearO scaleE
                            rw [if_pos rfl, if_pos rfl]
                            split <;> rfl
                          rw [e1] at x2
                          rw [e2] at x5
                          obtain ⟨V, hV⟩ : ∃ V, V = en Q top s * ov % 9973 := ⟨_, rfl⟩
                          rw [← hV] at x5
                          have hv : 0 ≤ V ∧ V ≤ 9972 := by omega
                          have m2 := HI.out.ent i s hlt hsk
                          have p2 := mul_bd m3 hv
                          obtain ⟨Y, hY⟩ : ∃ Y, Y = by_ * V := ⟨_, rfl⟩
                          rw [← hY] at p2
                          have u1 : IntKind.i64.wrap (by_ * V) = Y := by rw [hY]; exact Go.IntWalk.i64_in _ (by omega)
                          have u2 : IntKind.i64.wrap (en Q i s - Y) = en Q i s - Y := Go.IntWalk.i64_in _ (by omega)
                          have b7 : (s : Int) < (c : Int) := by omega
                          have HY := Lib.hid hY
                          have HV := Lib.hid hV
                          have hbgn := (OwI.setSep (p := ⟨D4 i, s, none⟩) hbg (fun b hb => (hsp4 b hb).2 i hlt) (.int .i64 ((en Q i s - Y) % 9973))).drew
                          clear hY hV e1 e2
                          go_wp2
                          go_still_tail 21, (by kernel_rfl)
                          still_call (stillW (R_Mod_any _ _ (by omega) (by omega)))
                          repeat still_step
                          refine wpStill_nil ?_
                          change wpList _ _ _ _ _ wr.drew
                          clear u1 u2
                          go_wp2
                          go_roundw
                          case rel => exact ⟨s + 1, _, by omega, by go_num, (hd.set matTy.ne hlt _).drew, hbgn, ⟨hi.out.1.setE _ _ _, fun a b h3 h4 => by
                            rw [hi.out.1.en_set _ h3 h4]
                            by_cases e : i = a ∧ s = b
                            · rw [if_pos e]
                              unfold clearP clearO
                              rw [if_pos (by omega), ← e.1, ← e.2, if_neg HK.out, HY.out, HV.out, HBY.out]
                            · rw [if_neg e, hi.out.2 a b h3 h4]
                              unfold clearP
                              by_cases e2 : a < i ∨ (a = i ∧ b < s)
                              · rw [if_pos e2, if_pos (by omega)]
                              · rw [if_neg e2, if_neg (by omega)]⟩, (hb.setCell (p := ⟨D4 i, s, none⟩) (hd.lowI hlt).1 _).drew⟩
                          case measure => simp [intOf]; omega
                        · obtain rfl : c = s := by omega
                          go_wp2
                          go_roundw
                          case rel => exact ⟨i + 1, P9, by omega, by go_num, hd, hbg, nx hi.out, hb⟩
                          case measure => simp [intOf]; omega
                  · obtain rfl : n = i := by omega
                    have HC : Hid (GInv n c (mx M) (q + 1) P9 (ps ++ [(q : Int)])) := by
                      refine HI.out.clear (by rw [← HT.out]; exact htn) hqc2 (by rw [← HT.out]; exact HPN.out) (hi.out.congr fun a b h3 _ => ?_)
                      unfold clearP clearO clearE
                      rw [if_pos (.inl h3), ← HT.out, HOQ.out]
                    have hle6 : (ps ++ [(q : Int)]).length = top + 1 := by rw [HT.out]; simp
                    have hbsz := hb.size
                    go_wp2_with (at_builtin; refine wpList_push_int2 HIT.out rfl (.tmp 125) (.tmp 127) rfl rfl rfl (hbg.alloc _) (z := (q : Int)) (by simp) (by decide) (by decide) (by omega) (by simp; omega) ?_; intro a6 cap6 w9 ho6 hg6 hk6)
                    have hd9 := (hd.alloc (.cells #[.int .i64 (q : Int)] 3)).grownElse hg6 (fun r e => hsp4 r e)
                    have hb10 := (hb.alloc hb.size (.cells #[.int .i64 (q : Int)] 3)).grown hg6 (by simp; omega) (fun r e => (hbg.own.lt r e).1)
                    have hsp9 : BSep (.slice a6 (top + 1) cap6) g D4 n := fun b hb => by
                      rcases hk6 b hb with h7 | h7
                      · exact hsp4 b h7.symm
                      · have h8 := hd.lowO.2
                        refine ⟨by simp at h7; omega, fun i hi => ?_⟩
                        have h9 := (hd.lowI hi).2
                        simp at h7; omega
                    go_roundw
                    case rel => exact ⟨q + 1, ps ++ [(q : Int)], a6, cap6, D4, C4, P9, by omega, by go_num, by rw [hle6], by rw [hle6]; exact ho6, hd9, HC, by rw [hle6]; exact hsp9, hb10⟩
                    case measure => simp [intOf]; omega
    · obtain rfl : q = cols := by omega
      go_wp2
      go_ret2
      exact ⟨_, _, _, _, _, _, rfl, hdm.toM.rd, hbg.rd, HG.out, hb⟩
end Go.Proofs.YtkielldinghmbaaDoor
namespace Go.Rk
open Go.RowKit

/-- The outer slice is the call's own, laid since w0; the rows are as they were in w0. -/
structure AlM (w0 w : World) (T : TypeId) (a : Option Addr) (n cap : Nat) (M : List (List Int)) : Prop where
  len_eq : M.length = n
  own : ∃ vs : List Value, w.ownsRow w0.heap.size T 1 (.slice a n cap) n vs ∧ ∀ k, k < n → ∃ ar cr, vs[k]? = some (.slice ar (rowOf M k).length cr) ∧ RdI w0 ar (rowOf M k).length cr (rowOf M k)
  bel : Below w0.heap.size w0 w

section
variable {P : Program} {w0 w w' : World} {T TT E : TypeId} {a : Option Addr} {n cap : Nat} {M : List (List Int)}
theorem AlM.nil (T : TypeId) (h : Below w0.heap.size w0 w) : AlM w0 w T none 0 0 [] := ⟨rfl, ⟨[], World.ownsRow_nil w _ T 1, fun _ h => absurd h (Nat.not_lt_zero _)⟩, h⟩

theorem AlM.caps (h : AlM w0 w T a n cap M) : n ≤ cap ∧ cap ≤ maxLen := by
  obtain ⟨vs, ho, _⟩ := h.own
  rcases ho.2 with ⟨hv, h0⟩ | ⟨g, c, cur, hv, _, _, hc, hm, _⟩
  · injection hv with _ _ hc
    subst hc; subst h0
    exact ⟨Nat.le_refl _, Nat.zero_le _⟩
  · injection hv with _ _ hc'
    subst hc'
    exact ⟨hc, hm⟩

theorem AlM.rd (h : AlM w0 w T a n cap M) : RdM w a n cap M := by
  refine ⟨h.len_eq, h.caps.1, h.caps.2, fun k hk => ?_⟩
  obtain ⟨vs, ho, hr⟩ := h.own
  obtain ⟨g, c, hv, hb, hlt⟩ := ho.form (by omega)
  injection hv with ha _ hc
  subst ha; subst hc
  obtain ⟨ar, cr, hvs, hoi⟩ := hr k hk
  exact ⟨g, 0, ar, _, cr, rfl, by rw [Nat.zero_add, ho.cellAt k (by omega), hvs], hoi.below h.bel⟩

theorem AlM.below (h : AlM w0 w T a n cap M) (hb : Below w.heap.size w w') : AlM w0 w' T a n cap M := by
  obtain ⟨vs, ho, hr⟩ := h.own
  exact ⟨h.len_eq, ⟨vs, ho.kept (row := none) ⟨hb.os, hb.tape, hb.output, hb.size, fun k hk _ => hb.block k hk⟩ (by cases (Value.slice a n cap).ownBlock <;> simp), hr⟩, h.bel.trans (hb.mono h.bel.size)⟩
theorem AlM.alloc (h : AlM w0 w T a n cap M) (o : Obj) : AlM w0 (w.alloc o) T a n cap M := h.below ((Below.refl _ _).alloc (Nat.le_refl _) o)
theorem AlM.drew (h : AlM w0 w T a n cap M) : AlM w0 w.drew T a n cap M := h.below (Below.refl _ _).drew
theorem AlM.drewN (h : AlM w0 w T a n cap M) (k : Nat) : AlM w0 (w.drewN k) T a n cap M := h.below (below_drewN (Below.refl _ _) k)

/-- append(out, row): the row read in w0. -/
theorem wpList_push_alias (hT : MatTy P TT T E) {ops : Array Oper} {rest : List Oper} {o : Oper} {ac : Act} {Q : Exit → Act → World → Prop} (hgd : o.guard = none) (s x : Operand)
    (ho : o.op = .call { callee := .builtin .append, args := #[s, x], argTypes := #[TT, TT] })
    {ar : Option Addr} {blk_ c2 cr : Nat} {l : List Int} (hs : ac.eval s = .slice a n cap) (hx : ac.eval x = .slice (some ⟨blk_, 0, none⟩) 1 c2) (h : AlM w0 w T a n cap M)
    (hl : RdI w0 ar l.length cr l) (hc : w.cell? ⟨blk_, 0, none⟩ = some (.slice ar l.length cr)) (hn : (n + 1) * 24 ≤ 140737488355328)
    (hK : ∀ a' cap' w', AlM w0 w' T a' (n + 1) cap' (M ++ [l]) → wpList P ops Q rest (ac.put o.dst (.slice a' (n + 1) cap')) w') : wpList P ops Q (o :: rest) ac w := by
  obtain ⟨i, hi, hz, hs1, hby⟩ := hT.hi
  obtain ⟨vs', ho', hr'⟩ := h.own
  refine wpList_append_own w hgd s x TT ho w0.heap.size T i (.slice none 0 0) 1 24 hT.ht hi hz hs1 hby rfl (by decide) (.slice a n cap) n vs' hs ho' ⟨blk_, 0, none⟩ 1 c2 [.slice ar l.length cr] hx rfl (fun j u hu => ?_) (fun u hu => ?_) (by unfold maxLen; omega) hn h.bel.size fun v' w' h1 h2 _ => ?_
  · rcases j with _ | j
    · simp at hu
      subst hu
      have : (⟨blk_, 0, none⟩ : Addr).add 0 = ⟨blk_, 0, none⟩ := by simp [Addr.add]
      rw [this]; exact hc
    · simp at hu
  · simp at hu; subst hu; rfl
  · obtain ⟨a', cap', rfl⟩ : ∃ a' cap', v' = .slice a' (n + 1) cap' := by
      rcases h1.2 with ⟨e, h0⟩ | ⟨g, c, cur, e, _⟩
      · exact absurd h0 (by omega)
      · exact ⟨_, _, e⟩
    have hvl : vs'.length = n := by have := ho'.1; omega
    refine hK a' cap' w' ⟨by simp [h.len_eq], ⟨_, h1, fun k hk => ?_⟩, h.bel.trans ((Below.refl w0.heap.size w).grown h2 h.bel.size fun k hk => (ho'.lt k hk).1)⟩
    rcases Nat.lt_or_ge k n with h3 | h3
    · obtain ⟨ar1, cr1, e1, o1⟩ := hr' k h3
      rw [rowOf_append_left (by rw [h.len_eq]; exact h3)]
      exact ⟨ar1, cr1, by rw [List.getElem?_append_left (by omega)]; exact e1, o1⟩
    · obtain rfl : k = n := by omega
      have er : rowOf (M ++ [l]) k = l := by rw [rowOf_append_right (by rw [h.len_eq]; exact Nat.le_refl _), h.len_eq, Nat.sub_self]; rfl
      rw [er]
      exact ⟨ar, cr, by rw [List.getElem?_append_right (by omega), hvl]; simp, hl⟩

theorem rowOf_take {M : List (List Int)} {n k : Nat} (h : k < n) : rowOf (M.take n) k = rowOf M k := by
  unfold rowOf
  simp only [List.getD_eq_getElem?_getD, List.getElem?_take_of_lt h]
theorem RdM.take (h : RdM w a n cap M) {k : Nat} (hk : k ≤ n) : RdM w a k cap (M.take k) :=
  ⟨by have := h.len_eq; rw [List.length_take]; omega, Nat.le_trans hk h.le, h.max, fun j hj => by
    obtain ⟨b, off, ar, nr, cr, h1, h2, h3⟩ := h.row j (by omega)
    exact ⟨b, off, ar, nr, cr, h1, h2, by rw [rowOf_take hj]; exact h3⟩⟩
end
end Go.Rk

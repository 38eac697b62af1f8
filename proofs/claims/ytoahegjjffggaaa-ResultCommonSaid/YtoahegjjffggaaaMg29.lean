/-
  What two have in common, by the rests of the one by the other: the determinant of what one does to the rests of powers by the other. No program in sight.
  poly.divide and poly.Gcd walked.
  ResultCommon walked: the resultant is nought just if both have something in common.
-/
import Derived.Test.YtoahegjjffggaaaRows
import Derived.StillTailTactics
import Derived.Test.YtoahegjjffggaaaMg0
import Derived.Test.YtoahegjjffggaaaMg2
import Derived.Test.YtoahegjjffggaaaMg6
import Derived.Test.YtoahegjjffggaaaMg8
namespace Go.Rk
open Go.RowKit Go.Proofs.Ytoahegjjffggaaa

def hbN (g : List Int) (s : Nat) : Int := ix g s * powm (ix g (g.length - 1)) 9971
/-- What f does to the rests by g. -/
def actN (g f : List Int) (i s : Nat) : Int := actP (g.length - 1) (hbN g) (ix f) 12 i s
def ZA (g f : List Int) : Prop := Eqm (det (g.length - 1) (fun i k => actN g f (g.length - 1 - 1 - i) (g.length - 1 - 1 - k))) 0
/-- Factors that pass, the last one no nought. -/
structure Ld (g : List Int) : Prop where
  pos : 1 ≤ g.length
  le : g.length ≤ 12
  ent : In 0 9972 g
  top : ix g (g.length - 1) ≠ 0

section
variable {f g h : List Int}
theorem Ld.inv (h : Ld g) : Eqm (ix g (g.length - 1) * powm (ix g (g.length - 1)) 9971) 1 := by
  have b := h.ent (g.length - 1) (by have := h.pos; omega)
  have e := over_mul b.1 b.2 h.top
  unfold Eqm
  rw [Int.mul_comm, e]
  rfl
theorem actP_more {m : Nat} {hb : Nat → Int} {i s : Nat} : ∀ N, f.length ≤ N → actP m hb (ix f) N i s = actP m hb (ix f) f.length i s
  | 0, h => by rw [Nat.le_zero.1 h]
  | N + 1, h => by
    rcases Nat.lt_or_ge N f.length with e | e
    · rw [show f.length = N + 1 by omega]
    · rw [← actP_more N e]
      show actP m hb (ix f) N i s + ix f N * remP m hb (i + N) s = _
      rw [ix_ge e, Int.zero_mul, Int.add_zero]
theorem unit_pow {c y : Int} (hc : c % 9973 ≠ 0) : ∀ a : Nat, Eqm (c ^ a * y) 0 → Eqm y 0
  | 0, h => by rwa [Int.pow_zero, Int.one_mul] at h
  | a + 1, h => by
    rw [Int.pow_succ, Int.mul_comm (c ^ a), Int.mul_assoc] at h
    exact unit_pow hc a (eqm_cancel hc h)
theorem eqm_zero_mul {c y : Int} (h : Eqm y 0) : Eqm (c * y) 0 := by
  have := (Eqm.refl c).mul h
  rwa [Int.mul_zero] at this
theorem zsyl (hh : Ld h) (hf : 1 ≤ f.length) (hf2 : f.length ≤ 12) : Eqm (det (f.length - 1 + (h.length - 1)) (sylM h f)) 0 ↔ ZA h f := by
  obtain ⟨m, hm⟩ : ∃ m, h.length = m + 1 := ⟨h.length - 1, by have := hh.pos; omega⟩
  obtain ⟨a, ha⟩ : ∃ a, f.length = a + 1 := ⟨f.length - 1, by omega⟩
  have hi := hh.inv
  have ht := hh.top
  have hb := hh.ent (h.length - 1) (by omega)
  rw [show h.length - 1 = m by omega] at hi ht hb
  have e := syl_act hm ha hi
  have e2 : det m (actM m (fun s => ix h s * powm (ix h m) 9971) f) = det m (fun i k => actN h f (m - 1 - i) (m - 1 - k)) := det_congr fun i k _ _ => by
    unfold actM actN hbN
    rw [show h.length - 1 = m by omega, actP_more 12 hf2]
  rw [e2] at e
  unfold ZA
  rw [show h.length - 1 = m by omega, show f.length - 1 = a by omega]
  constructor
  · intro z
    exact unit_pow (by omega) a (e.symm.trans z)
  · intro z
    exact e.trans (eqm_zero_mul z)
theorem zcong {f' : List Int} (h : ∀ i s, s < g.length - 1 → Eqm (actN g f i s) (actN g f' i s)) : ZA g f ↔ ZA g f' := by
  have e := det_eqm (n := g.length - 1) (A := fun i k => actN g f (g.length - 1 - 1 - i) (g.length - 1 - 1 - k)) (B := fun i k => actN g f' (g.length - 1 - 1 - i) (g.length - 1 - 1 - k)) fun i k hi hk => h _ _ (by omega)
  unfold ZA
  exact ⟨fun z => e.symm.trans z, fun z => e.trans z⟩
theorem zstep (hg : Ld g) {f' : List Int} {t : Nat} {k : Int} (ht : t + g.length ≤ 12) (h : ∀ j, j < 12 → Eqm (ix f' j) (ix f j - (if t ≤ j then k * ix g (j - t) else 0))) {i s : Nat} (hs : s < g.length - 1) : Eqm (actN g f i s) (actN g f' i s) := by
  obtain ⟨m, hm⟩ : ∃ m, g.length = m + 1 := ⟨g.length - 1, by have := hg.pos; omega⟩
  have hi := hg.inv
  unfold actN actP
  rw [show g.length - 1 = m by omega] at hi hs ⊢
  have e1 : Eqm (sumTo (fun j => ix f' j * remP m (hbN g) (i + j) s) 12) (sumTo (fun j => (ix f j - (if t ≤ j then k * ix g (j - t) else 0)) * remP m (hbN g) (i + j) s) 12) := Eqm.sum fun j hj => (h j hj).mul (Eqm.refl _)
  have e2 : sumTo (fun j => (ix f j - (if t ≤ j then k * ix g (j - t) else 0)) * remP m (hbN g) (i + j) s) 12 = sumTo (fun j => ix f j * remP m (hbN g) (i + j) s) 12 - sumTo (fun j => if t ≤ j ∧ j < t + (m + 1) then k * (ix g (j - t) * remP m (hbN g) (i + j) s) else 0) 12 := by
    have := sumTo_subc (fun j => ix f j * remP m (hbN g) (i + j) s) (fun j => if t ≤ j ∧ j < t + (m + 1) then k * (ix g (j - t) * remP m (hbN g) (i + j) s) else 0) 1 12
    rw [Int.mul_one] at this
    rw [← this]
    refine sumTo_congr fun j _ => ?_
    by_cases e3 : t ≤ j
    · by_cases e4 : j < t + (m + 1)
      · rw [if_pos e3, if_pos ⟨e3, e4⟩]; grind
      · rw [if_pos e3, if_neg (fun q => e4 q.2), ix_ge (l := g) (by omega)]; grind
    · rw [if_neg e3, if_neg (fun q => e3 q.1)]; grind
  rw [e2, sumTo_window (fun j => k * (ix g (j - t) * remP m (hbN g) (i + j) s)) (by omega)] at e1
  have e5 : sumTo (fun l => k * (ix g (t + l - t) * remP m (hbN g) (i + (t + l)) s)) (m + 1) = k * sumTo (fun l => ix g l * remP m (hbN g) (i + t + l) s) (m + 1) := by
    rw [← sumTo_mul]
    exact sumTo_congr fun l _ => by rw [show t + l - t = l by omega, Nat.add_assoc]
  rw [e5] at e1
  have e6 := remP_rel (m := m) (hb := hbN g) (h := ix g) (o := powm (ix g m) 9971) hi (fun s => by unfold hbN; rw [show g.length - 1 = m by omega]) (i + t) s hs
  have e7 := (Eqm.refl (sumTo (fun j => ix f j * remP m (hbN g) (i + j) s) 12)).sub (eqm_zero_mul (c := k) e6)
  rw [Int.sub_zero] at e7
  exact (e1.trans e7).symm
theorem ztrim (i s : Nat) : actN g (trimL f) i s = actN g f i s := by
  unfold actN actP
  exact sumTo_congr fun j _ => by rw [trimL_ix]
theorem zturn (hf : 1 ≤ f.length) (hg : 1 ≤ g.length) (h3 : 3 ≤ f.length + g.length) : Eqm (det (f.length - 1 + (g.length - 1)) (sylM g f)) 0 ↔ Eqm (det (g.length - 1 + (f.length - 1)) (sylM f g)) 0 := by
  have e := syl_turn hf hg h3
  rw [show g.length + f.length - 2 = f.length - 1 + (g.length - 1) by omega, show f.length + g.length - 2 = g.length - 1 + (f.length - 1) by omega] at e
  rw [e]
  split
  · constructor
    · intro z
      have := z.neg
      rw [Int.neg_mul, Int.one_mul, Int.neg_neg] at this
      exact this
    · intro z
      have := z.neg
      rw [Int.neg_mul, Int.one_mul]
      exact this
  · rw [Int.one_mul]
theorem zswap (hf : Ld f) (hg : Ld g) (h3 : 3 ≤ f.length + g.length) : ZA g f ↔ ZA f g := by
  rw [← zsyl hg hf.pos hf.le, ← zsyl hf hg.pos hg.le]
  exact zturn hf.pos hg.pos h3
theorem znil (hg : 1 ≤ g.length) : ZA g [] ↔ 1 < g.length := by
  have e : ∀ i s, actN g [] i s = 0 := fun i s => by
    unfold actN actP
    rw [sumTo_congr (h := fun _ => 0) fun j _ => by rw [ix_ge (by simp), Int.zero_mul], sumTo_zero]
  unfold ZA
  rcases Nat.lt_or_ge 1 g.length with h | h
  · obtain ⟨m, hm⟩ : ∃ m, g.length - 1 = m + 1 := ⟨g.length - 2, by omega⟩
    rw [hm, show (fun i k => actN g [] (m + 1 - 1 - i) (m + 1 - 1 - k)) = fun _ _ => (0 : Int) from funext fun i => funext fun k => e _ _]
    refine ⟨fun _ => h, fun _ => Eqm.of_eq ?_⟩
    show sumTo (fun j => sg j * 0 * det m (minor (fun _ _ => (0 : Int)) 0 j)) (m + 1) = 0
    rw [sumTo_congr (h := fun _ => 0) fun j _ => by rw [Int.mul_zero, Int.zero_mul], sumTo_zero]
  · rw [show g.length - 1 = 0 by omega]
    refine ⟨fun z => ?_, fun q => by omega⟩
    have : Eqm 1 0 := z
    unfold Eqm at this
    omega
/-- The start: the resultant is nought just if so. -/
theorem zstart (hf : Ld f) (hg : Ld g) (h3 : 3 ≤ f.length + g.length) : Eqm (det (f.length + g.length - 2) (sylM f g)) 0 ↔ ZA g f := by
  rw [← zsyl hg hf.pos hf.le, zturn hf.pos hg.pos h3, show f.length + g.length - 2 = g.length - 1 + (f.length - 1) by have := hf.pos; have := hg.pos; omega]

/-- What Euclid's rounds keep: T is told by the two. -/
def Eu (T : Prop) (F G : List Int) : Prop := if G.length = 0 then (1 < F.length ↔ T) else (ZA G F ↔ T)
theorem Eu.step {T : Prop} {F G R : List Int} (h : Eu T F G) (hG : Ld G) (hR : R.length ≠ 0 → Ld R) (hl : R.length < G.length) (hc : ∀ i s, s < G.length - 1 → Eqm (actN G F i s) (actN G R i s)) : Eu T G R := by
  unfold Eu at h ⊢
  rw [if_neg (by have := hG.pos; omega)] at h
  have e := zcong hc
  by_cases h0 : R.length = 0
  · rw [if_pos h0]
    rw [List.eq_nil_of_length_eq_zero h0] at e
    rw [← h, e, znil hG.pos]
  · rw [if_neg h0, ← h, e]
    exact zswap hG (hR h0) (by omega)
end
end Go.Rk
namespace Go.Proofs.Ytoahegjjffggaaa
open Go.RowKit Go.Rk

theorem ld_trim {f : List Int} (h : Ld f) : trimL f = f := by
  have e : trimN f f.length = f.length := trimN_is (Nat.le_refl _) (fun j h1 h2 => by omega) fun _ => h.top
  unfold trimL
  rw [e, List.take_length]
theorem trim_short {P : List Int} {l : Nat} (hl : P.length = l + 1) (h : ix P l = 0) : (trimL P).length < l + 1 := by
  rw [trimL_len, hl, trimN, if_pos h]
  have := trimN_le P l
  omega
/-- The step strikes what leads. -/
theorem div_top {K T O k : Int} (hO : O * T % 9973 = 1) (hk : k = K * O % 9973) : (K - k * T) % 9973 = 0 := by
  have e1 : Eqm (k * T) K := by
    rw [hk]
    refine ((Eqm.mod (K * O)).mul (Eqm.refl T)).trans ?_
    have e2 : Eqm (O * T) 1 := hO
    have := (Eqm.refl K).mul e2
    rw [Int.mul_one, ← Int.mul_assoc] at this
    exact this
  have e3 := (Eqm.refl K).sub e1
  rw [Int.sub_self] at e3
  exact e3

section
variable {a b : Option Addr} {n m ca cb : Nat} {f g : List Int} {w : World}
set_option maxHeartbeats 8000000 in
set_option maxRecDepth 100000 in
theorem poly_divide_any (hf : RdI w a n ca f) (hi : In 0 9972 f) (hn : n ≤ 12) (hg : RdI w b m cb g) (hL : Ld g) :
    Calls Try.prog 51 #[.slice a n ca, .slice b m cb] w fun e w' => ∃ qa ql qc ra rc R, e = .returned (.tuple #[.slice qa ql qc, .slice ra R.length rc]) ∧ OwI w' w.heap.size 3 ra R.length rc R ∧ R.length < m ∧ In 0 9972 R ∧ (R.length ≠ 0 → ix R (R.length - 1) ≠ 0) ∧ (∀ i s, s < m - 1 → Eqm (actN g f i s) (actN g R i s)) ∧ Below w.heap.size w w' := by
  have HM := Lib.hid intTy
  have HGL := Lib.hid hg.len_eq
  have HLd := Lib.hid hL
  have h1 := hL.pos
  have h12 := hL.le
  have hge := hL.ent
  have hgt := hL.top
  rw [hg.len_eq] at h1 h12 hgt
  have CT := Lib.hid (poly_trim_any hf (by omega))
  have HTI := Lib.hid (trimL_in hi)
  have HTT : Hid (0 < (trimL f).length → ix (trimL f) ((trimL f).length - 1) ≠ 0) := fun h => trimL_top h
  have HTC : Hid (∀ i s, s < m - 1 → Eqm (actN g f i s) (actN g (trimL f) i s)) := fun i s _ => Eqm.of_eq (ztrim i s).symm
  have hl0 : (trimL f).length ≤ n := by rw [trimL_len, ← hf.len_eq]; exact trimN_le _ _
  obtain ⟨F0, hF0⟩ : ∃ F, trimL f = F := ⟨_, rfl⟩
  rw [hF0] at CT HTI HTT HTC hl0
  obtain ⟨l0, hll⟩ : ∃ l, F0.length = l := ⟨_, rfl⟩
  rw [hll] at CT HTT hl0
  have HF0 := Lib.hid hll
  obtain ⟨q, rfl⟩ : ∃ q, m = q + 1 := ⟨m - 1, by omega⟩
  rw [show q + 1 - 1 = q from rfl] at hgt HTC
  obtain ⟨bg, og, rfl, hbg, hcg⟩ := hg.at (k := q) (by omega)
  have HcG := Lib.hid hcg
  have yT := hcg q (by omega)
  have bT := hge q (by rw [HGL.out]; omega)
  obtain ⟨T, hT⟩ : ∃ T, ix g q = T := ⟨_, rfl⟩
  rw [hT] at yT bT hgt
  have HT := Lib.hid hT
  have HGE := Lib.hid hge
  have CO := Lib.hid (fun w => Over_any T w bT.1 bT.2)
  have bO := powm_in T 9971
  have hOT := over_mul bT.1 bT.2 hgt
  obtain ⟨O, hO⟩ : ∃ O, powm T 9971 = O := ⟨_, rfl⟩
  rw [hO] at CO bO hOT
  have HOT := Lib.hid hOT
  have t1 : ((q + 1 : Nat) : Int) - 1 = (q : Int) := by omega
  have t2 : ((q : Int) + 1) - 1 = (q : Int) := by omega
  have i1 : (q : Int) < (q : Int) + 1 := by omega
  have i0 : (q : Int) < ((q + 1 : Nat) : Int) := by omega
  clear hT hcg hge hi hL hF0 hll hgt hOT hO
  go_enter Try.func51, Try.ntmps51
  go_wp2_with (go_at_call 47; fail)
  (with_reducible refine CT.out.mono ?_)
  clear CT
  rintro e w1 ⟨a1, c1, rfl, ho1, b1⟩
  have y1 := b1.keep hbg yT
  by_cases hlt0 : l0 < q + 1
  · have i2 : (l0 : Int) < (q : Int) + 1 := by omega
    have i3 : (l0 : Int) < ((q + 1 : Nat) : Int) := by omega
    go_wp2_with (first | (go_at_call 52; (with_reducible refine (CO.out _).mono ?_); rintro e w' ⟨rfl, rfl⟩))
    go_loopw [5] (fun v wt => v = .slice a1 l0 c1 ∧ wt = w1) (fun _ _ => 0)
    case atStart => exact ⟨rfl, rfl⟩
    case round =>
      obtain ⟨rfl, rfl⟩ := hrel
      go_wp2
      go_ret2
      exact ⟨none, 0, 0, a1, c1, F0, by rw [HF0.out]; rfl, by rw [HF0.out]; exact ho1, by rw [HF0.out]; exact hlt0, HTI.out, fun h => by rw [HF0.out] at h ⊢; exact HTT.out (by omega), HTC.out, b1⟩
  · have i2 : (q : Int) + 1 ≤ (l0 : Int) := by omega
    have i3 : ((q + 1 : Nat) : Int) ≤ (l0 : Int) := by omega
    obtain ⟨s0, rfl⟩ : ∃ s0, l0 = q + s0 + 1 := ⟨l0 - q - 1, by omega⟩
    have v1 : ((q + s0 + 1 : Nat) : Int) - ((q + 1 : Nat) : Int) + 1 = ((s0 + 1 : Nat) : Int) := by omega
    have v2 : ((q + s0 + 1 : Nat) : Int) - ((q : Int) + 1) + 1 = ((s0 + 1 : Nat) : Int) := by omega
    have v3 : ((q : Int) + (s0 : Int) + 1) - ((q : Int) + 1) + 1 = ((s0 + 1 : Nat) : Int) := by omega
    go_wp2_with (first | (go_at_call 52; (with_reducible refine (CO.out _).mono ?_); rintro e w' ⟨rfl, rfl⟩) | (refine wpList_make_ints HM.out rfl (.tmp 30) (.tmp 30) (n := s0 + 1) rfl rfl rfl (by omega) ?_; intro w2 ho2 hb2))
    have hk2 := below_tr b1 hb2
    have ho1' := ho1.below hb2
    have hs1 := b1.size
    have hne : Hid (∀ bb, a1 = some ⟨bb, 0, none⟩ → bb ≠ w1.heap.size) := fun bb e => by
      have := (ho1.own.lt bb (by subst e; rfl)).2
      omega
    have ho2 := ho2.mono hs1
    clear y1 b1 ho1 hb2
    generalize w1.heap.size = gq at *
    go_loopw [5] (fun v wt => ∃ (l : Nat) (p : Option Addr) (c : Nat) (F Q : List Int), v = .slice p l c ∧ l ≤ q + s0 + 1 ∧ OwI wt w.heap.size 3 p l c F ∧ OwI wt w.heap.size 3 (some ⟨gq, 0, none⟩) (s0 + 1) (s0 + 1) Q ∧ Hid (∀ bb, p = some ⟨bb, 0, none⟩ → bb ≠ gq) ∧ Hid (In 0 9972 F) ∧ Hid (0 < l → ix F (l - 1) ≠ 0) ∧ Hid (∀ i s, s < q → Eqm (actN g f i s) (actN g F i s)) ∧ Below w.heap.size w wt) (fun v _ => lenOf v)
    case atStart => exact ⟨q + s0 + 1, a1, c1, F0, _, rfl, Nat.le_refl _, ho1', ho2, hne, HTI.out, HTT.out, HTC.out, hk2⟩
    case round =>
      clear ho1' ho2 hne HTI HTT HTC hk2 hlt0 i2 i3
      obtain ⟨l, p, c, F, Q, rfl, hl, hF, hQ, hne, hFI, hFT, hC, hb⟩ := hrel
      have HFL := Lib.hid hF.len_eq
      by_cases hlt : l < q + 1
      · have i2 : (l : Int) < (q : Int) + 1 := by omega
        have i3 : (l : Int) < ((q + 1 : Nat) : Int) := by omega
        go_wp2
        go_ret2
        exact ⟨some ⟨gq, 0, none⟩, s0 + 1, s0 + 1, p, c, F, by rw [HFL.out]; rfl, by rw [HFL.out]; exact hF, by rw [HFL.out]; exact hlt, hFI.out, fun h => by rw [HFL.out] at h ⊢; exact hFT.out (by omega), hC.out, hb⟩
      · obtain ⟨s, rfl⟩ : ∃ s, l = q + s + 1 := ⟨l - q - 1, by omega⟩
        have i2 : (q : Int) + 1 ≤ ((q + s + 1 : Nat) : Int) := by omega
        have i7 : (q : Int) + 1 ≤ (q : Int) + (s : Int) + 1 := by omega
        obtain ⟨gr, hz, hgr, hgrl, hcF, hfF⟩ := hF.at (by omega)
        subst hz
        have hgne := hne.out gr rfl
        have x1 := hcF (q + s) (by omega)
        have bK := hFI.out (q + s) (by rw [HFL.out]; omega)
        obtain ⟨K, hK⟩ : ∃ K, ix F (q + s) = K := ⟨_, rfl⟩
        rw [hK] at x1 bK
        have HK := Lib.hid hK
        have t3 : ((q + s + 1 : Nat) : Int) - ((q + 1 : Nat) : Int) = (s : Int) := by omega
        have t4 : ((q + s + 1 : Nat) : Int) - ((q : Int) + 1) = (s : Int) := by omega
        have t5 : ((q + s + 1 : Nat) : Int) - 1 = ((q + s : Nat) : Int) := by omega
        have t6 : ((q : Int) + (s : Int) + 1) - ((q : Int) + 1) = (s : Int) := by omega
        have t7 : ((q : Int) + (s : Int) + 1) - 1 = (q : Int) + (s : Int) := by omega
        have t8 : ((q : Int) + (s : Int)).toNat = q + s := by omega
        have i4 : (q : Int) + (s : Int) < (q : Int) + (s : Int) + 1 := by omega
        have i5 : (q : Int) + (s : Int) < ((q + s + 1 : Nat) : Int) := by omega
        have i6 : (0 : Int) ≤ (q : Int) + (s : Int) := by omega
        have bm := mul_bd bK bO
        have u1 : IntKind.i64.wrap (K * O) = K * O := Go.IntWalk.i64_in _ (by omega)
        have u2 : (K * O).tmod 9973 = K * O % 9973 := Int.tmod_eq_emod_of_nonneg (by omega)
        obtain ⟨k, hk⟩ : ∃ k, K * O % 9973 = k := ⟨_, rfl⟩
        have bk : 0 ≤ k ∧ k ≤ 9972 := by omega
        rw [hk] at u2
        have Hk := Lib.hid hk
        -- the store into the quotient
        obtain ⟨gz, hz, hgz, _, hcQ, hfQ⟩ := hQ.at (by omega)
        cases hz
        have x2 := hcQ s (by omega)
        have f2 := hfQ s
        have j1 : (s : Int) < ((s0 + 1 : Nat) : Int) := by omega
        have j2 : (s : Int) < (s0 : Int) + 1 := by omega
        have hQ1 := hQ.set (k := s) k
        have hF1 := hF.setElse (p := ⟨gq, s, none⟩) (by show gq ≠ gr; exact fun e => hgne e.symm) (.int .i64 k)
        have hb1 := hb.setCell (p := ⟨gq, s, none⟩) hgz (.int .i64 k)
        clear hK hk bm hcF hfF hcQ hfQ hF hQ hb
        go_wp2_with fail
        generalize wr.setCell ⟨gq, s, none⟩ (.int .i64 k) = W3 at *
        go_loopw [57] (fun y wt => ∃ (i : Nat) (P : List Int), i ≤ q + 1 ∧ y = .int .i64 i ∧ OwI wt w.heap.size 3 (some ⟨gr, 0, none⟩) (q + s + 1) c P ∧ OwI wt w.heap.size 3 (some ⟨gq, 0, none⟩) (s0 + 1) (s0 + 1) (Q.set s k) ∧ Hid (∀ j, ix P j = if s ≤ j ∧ j < s + i then (ix F j - k * ix g (j - s)) % 9973 else ix F j) ∧ Below w.heap.size w wt) (fun y _ => q + 1 - (intOf y).toNat)
        case atStart => exact ⟨0, F, Nat.zero_le _, rfl, hF1, hQ1, fun j => by rw [if_neg (by omega)], hb1⟩
        case round =>
          clear hF1 hQ1 hb1 x1 x2 f2
          obtain ⟨i, P, hi, rfl, hF, hQ, hP, hb⟩ := hrel
          by_cases hlt3 : i < q + 1
          · have l1 : (i : Int) < ((q + 1 : Nat) : Int) := by omega
            have l2 : (i : Int) < (q : Int) + 1 := by omega
            obtain ⟨gz2, hz, _, _, hcF, hfF⟩ := hF.at (by omega)
            cases hz
            have yg := hb.keep hbg (HcG.out i hlt3)
            have x1 := hcF (s + i) (by omega)
            have f1 := hfF (s + i)
            have v8 : ((s : Int) + (i : Int)).toNat = s + i := by omega
            have l3 : (s : Int) + (i : Int) < ((q + s + 1 : Nat) : Int) := by omega
            have l4 : (s : Int) + (i : Int) < (q : Int) + (s : Int) + 1 := by omega
            have l5 : (0 : Int) ≤ (s : Int) + (i : Int) := by omega
            have bX := hFI.out (s + i) (by rw [HFL.out]; omega)
            have bY := HGE.out i (by rw [HGL.out]; exact hlt3)
            have eX : ix P (s + i) = ix F (s + i) := by rw [hP.out, if_neg (by omega)]
            rw [eX] at x1
            obtain ⟨X, hX⟩ : ∃ X, ix F (s + i) = X := ⟨_, rfl⟩
            obtain ⟨Y, hY⟩ : ∃ Y, ix g i = Y := ⟨_, rfl⟩
            rw [hX] at x1 bX
            rw [hY] at yg bY
            have bm := mul_bd bk bY
            have u3 : IntKind.i64.wrap (k * Y) = k * Y := Go.IntWalk.i64_in _ (by omega)
            have u4 : IntKind.i64.wrap (X - k * Y) = X - k * Y := Go.IntWalk.i64_in _ (by omega)
            have HLP := Lib.hid hF.len_eq
            have hF1 := hF.set (k := s + i) ((X - k * Y) % 9973)
            have hQ1 := hQ.setElse (p := ⟨gr, s + i, none⟩) (by show gr ≠ gq; exact hgne) (.int .i64 ((X - k * Y) % 9973))
            have hb1 := hb.setCell (p := ⟨gr, s + i, none⟩) hgr (.int .i64 ((X - k * Y) % 9973))
            have HP1 : Hid (∀ j, ix (P.set (s + i) ((X - k * Y) % 9973)) j = if s ≤ j ∧ j < s + (i + 1) then (ix F j - k * ix g (j - s)) % 9973 else ix F j) := fun j => by
              rw [ix_set, HLP.out]
              by_cases e1 : s + i = j
              · subst e1
                rw [if_pos ⟨rfl, by omega⟩, if_pos (by omega), show s + i - s = i by omega, hX, hY]
              · rw [if_neg (fun q => e1 q.1), hP.out]
                by_cases e2 : s ≤ j ∧ j < s + i
                · rw [if_pos e2, if_pos (by omega)]
                · rw [if_neg e2, if_neg (by omega)]
            clear hX hY eX bX bY bm hcF hfF hF hQ hb hP
            go_wp2_with (first | (go_at_call 62; refine (Field_any _ _).mono ?_; rintro e w' ⟨rfl, rfl⟩))
            generalize wr.setCell ⟨gr, s + i, none⟩ (.int .i64 ((X - k * Y) % 9973)) = W4 at *
            go_roundw
            case rel => exact ⟨i + 1, _, by omega, by go_num, hF1, hQ1, HP1.out, hb1⟩
            case measure => simp [intOf]; omega
          · obtain rfl : q + 1 = i := by omega
            have hlen := hF.len_eq
            have hPI : Hid (In 0 9972 P) := fun j hj => by
              rw [hlen] at hj
              rw [hP.out]
              split
              · omega
              · exact hFI.out j (by rw [HFL.out]; exact hj)
            have hP0 : ix P (q + s) = 0 := by
              rw [hP.out, if_pos (by omega), HK.out, show q + s - s = q by omega, HT.out]
              exact div_top HOT.out Hk.out.symm
            have hsh := trim_short hlen hP0
            have hC2 : Hid (∀ i t, t < q → Eqm (actN g f i t) (actN g (trimL P) i t)) := fun i t ht => by
              rw [ztrim]
              refine (hC.out i t ht).trans (zstep (t := s) (k := k) HLd.out (by rw [HGL.out]; omega) (fun j _ => ?_) (by rw [HGL.out]; exact ht))
              rw [hP.out]
              by_cases e1 : s ≤ j
              · by_cases e2 : j < s + (q + 1)
                · rw [if_pos ⟨e1, e2⟩, if_pos e1]; exact Eqm.mod _
                · rw [if_neg (fun q => e2 q.2), if_pos e1, ix_ge (l := g) (by rw [HGL.out]; omega), Int.mul_zero, Int.sub_zero]; exact Eqm.refl _
              · rw [if_neg (fun q => e1 q.1), if_neg e1, Int.sub_zero]; exact Eqm.refl _
            have CT := Lib.hid (poly_trim_any hF.rd (by omega))
            have hTI := Lib.hid (trimL_in hPI.out)
            have hTT : Hid (0 < (trimL P).length → ix (trimL P) ((trimL P).length - 1) ≠ 0) := fun h => trimL_top h
            have hglt : gq < wr.heap.size := (hQ.own.lt _ rfl).2
            obtain ⟨F2, hF2⟩ : ∃ F2, trimL P = F2 := ⟨_, rfl⟩
            rw [hF2] at CT hTI hTT hC2 hsh
            obtain ⟨l2, hl2⟩ : ∃ l2, F2.length = l2 := ⟨_, rfl⟩
            rw [hl2] at CT hTT hsh
            clear hP hP0 hPI hF2 hl2 hF
            go_wp2_with (go_at_call 47; fail)
            (with_reducible refine CT.out.mono ?_)
            clear CT
            rintro e w5 ⟨a5, c5, rfl, ho5, b5⟩
            have hne5 : Hid (∀ bb, a5 = some ⟨bb, 0, none⟩ → bb ≠ gq) := fun bb e => by
              have := (ho5.own.lt bb (by subst e; rfl)).1
              omega
            have ho5 := ho5.mono hb.size
            have hQ5 := hQ.below b5
            have b5 := below_tr hb b5
            clear hQ hb
            go_wp2
            go_roundw
            case rel => exact ⟨l2, a5, c5, F2, _, rfl, by omega, ho5, hQ5, hne5, hTI, hTT, hC2, b5⟩
            case measure => simp [lenOf]; omega
end
end Go.Proofs.Ytoahegjjffggaaa
namespace Go.Proofs.Ytoahegjjffggaaa
open Go.RowKit Go.Rk

section
variable {a b : Option Addr} {n m ca cb : Nat} {f g : List Int} {w : World}
set_option maxHeartbeats 8000000 in
set_option maxRecDepth 100000 in
theorem poly_Gcd_any {T : Prop} (hf : RdI w a n ca f) (hg : RdI w b m cb g) (hF : Ld f) (hG : Ld g) (hT : ZA g f ↔ T) :
    Calls Try.prog 20 #[.slice a n ca, .slice b m cb] w fun e w' => ∃ p l c, e = .returned (.tuple #[.slice p l c, .nilIface]) ∧ 1 ≤ l ∧ (1 < l ↔ T) ∧ Below w.heap.size w w' := by
  have HM := Lib.hid intTy
  have hfp := hF.pos
  have hgp := hG.pos
  have hfl := hF.le
  have hgl := hG.le
  have C0 := poly_both_ok hf hF.ent (by rw [← hf.len_eq]; exact hfl) hg hG.ent (by rw [← hg.len_eq]; exact hgl)
  have C1 : ∀ w1, Below w.heap.size w w1 → Calls Try.prog 47 #[.slice a n ca] w1 fun e w' => ∃ a' c', e = .returned (.slice a' f.length c') ∧ OwI w' w1.heap.size 3 a' f.length c' f ∧ Below w1.heap.size w1 w' := fun w1 k => by
    have := poly_trim_any (hf.below k) (by rw [← hf.len_eq]; omega)
    rw [ld_trim hF] at this
    exact this
  have C2 : ∀ w1, Below w.heap.size w w1 → Calls Try.prog 47 #[.slice b m cb] w1 fun e w' => ∃ a' c', e = .returned (.slice a' g.length c') ∧ OwI w' w1.heap.size 3 a' g.length c' g ∧ Below w1.heap.size w1 w' := fun w1 k => by
    have := poly_trim_any (hg.below k) (by rw [← hg.len_eq]; omega)
    rw [ld_trim hG] at this
    exact this
  have C0 := Lib.hid C0
  have C1 := Lib.hid C1
  have C2 := Lib.hid C2
  have HF := Lib.hid hF
  have HG := Lib.hid hG
  have HE : Hid (Eu T f g) := by
    unfold Hid Eu
    rw [if_neg (by omega)]
    exact hT
  clear hF hG hT
  go_enter Try.func20, Try.ntmps20
  go_wp2_with (first | (go_at_call 46; (with_reducible refine C0.out.mono ?_); clear C0; rintro e w1 ⟨rfl, k1⟩) | (go_at_call 47; fail))
  refine (C1.out _ k1).mono ?_
  rintro e w2 ⟨a2, c2, rfl, ho2, b2⟩
  have k2 := below_tr k1 b2
  have ho2 := ho2.mono k1.size
  clear C1 b2
  go_wp2_with (go_at_call 47; fail)
  refine (C2.out _ k2).mono ?_
  rintro e w3 ⟨a3, c3, rfl, ho3, b3⟩
  have k3 := below_tr k2 b3
  have ho3 := ho3.mono k2.size
  have ho2 := ho2.below b3
  clear C2 b3 k1 k2
  obtain ⟨lf, hlf⟩ : ∃ l, f.length = l := ⟨_, rfl⟩
  obtain ⟨lg, hlg⟩ : ∃ l, g.length = l := ⟨_, rfl⟩
  rw [hlf] at ho2
  rw [hlg] at ho3
  simp only [hlf, hlg]
  clear hlf hlg
  go_wp2_with fail
  go_loopw [0, 1] (fun u v wt => ∃ (F G : List Int) (p q : Option Addr) (lF lG c d : Nat), u = .slice p lF c ∧ v = .slice q lG d ∧ OwI wt w.heap.size 3 p lF c F ∧ OwI wt w.heap.size 3 q lG d G ∧ Hid (Ld F) ∧ Hid (G.length ≠ 0 → Ld G) ∧ Hid (Eu T F G) ∧ Below w.heap.size w wt) (fun _ v _ => lenOf v)
  case atStart => exact ⟨f, g, a2, a3, lf, lg, c2, c3, rfl, rfl, ho2, ho3, HF, fun _ => HG.out, HE, k3⟩
  case round =>
    clear ho2 ho3 HF HG HE k3
    obtain ⟨F, G, p, q, lF, lG, c, d, rfl, rfl, hF, hG, hLF, hLG, hE, hb⟩ := hrel
    have HLF := Lib.hid hF.len_eq
    have HLG := Lib.hid hG.len_eq
    have hFp := hLF.out.pos
    have hFle := hLF.out.le
    rw [HLF.out] at hFp hFle
    by_cases h0 : 0 < lG
    · have z0 : (0 : Int) < (lG : Int) := by omega
      have hLG1 := hLG.out (by rw [HLG.out]; omega)
      have HLG1 := Lib.hid hLG1
      go_wp2_with (go_at_call 51; fail)
      refine (poly_divide_any hF.rd hLF.out.ent hFle hG.rd hLG1).mono ?_
      rintro e w4 ⟨qa, ql, qc, ra, rc, R, rfl, hR, hRl, hRi, hRt, hRc, b4⟩
      have k4 := below_tr hb b4
      have hR := hR.mono hb.size
      have hG4 := hG.below b4
      have hGle := hLG1.le
      rw [HLG.out] at hGle
      have hLR : Hid (R.length ≠ 0 → Ld R) := fun h => ⟨by omega, by omega, hRi, hRt h⟩
      have hE2 : Hid (Eu T G R) := hE.out.step hLG1 hLR.out (by rw [HLG.out]; exact hRl) (fun i s hs => hRc i s (by rw [HLG.out] at hs; exact hs))
      obtain ⟨lR, hlR⟩ : ∃ l, R.length = l := ⟨_, rfl⟩
      rw [hlR] at hR hRl
      simp only [hlR]
      clear hlR hRi hRt hRc hF hG hb b4 hLG1
      go_wp2
      go_roundw
      case rel => exact ⟨G, R, q, ra, lG, lR, d, rc, rfl, rfl, hG4, hR, HLG1, hLR, hE2, k4⟩
      case measure => simp [lenOf]; omega
    · obtain rfl : lG = 0 := by omega
      have hTT : Hid (1 < lF ↔ T) := by
        have h := hE.out
        unfold Eu at h
        rw [if_pos HLG.out, HLF.out] at h
        exact h
      obtain ⟨t, rfl⟩ : ∃ t, lF = t + 1 := ⟨lF - 1, by omega⟩
      obtain ⟨g0, hz, hg0, _, hcF, _⟩ := hF.at (by omega)
      subst hz
      have x1 := hcF t (by omega)
      have bt := hLF.out.ent t (by rw [HLF.out]; omega)
      obtain ⟨X, hX⟩ : ∃ X, ix F t = X := ⟨_, rfl⟩
      rw [hX] at x1 bt
      have CO := Lib.hid (fun w => Over_any X w bt.1 bt.2)
      have bO := powm_in X 9971
      obtain ⟨O, hO⟩ : ∃ O, powm X 9971 = O := ⟨_, rfl⟩
      rw [hO] at CO bO
      have t1 : ((t + 1 : Nat) : Int) - 1 = (t : Int) := by omega
      have t2 : ((t : Int) + 1) - 1 = (t : Int) := by omega
      have z0 : (((t + 1 : Nat) : Int) == 0) = false := beq_eq_false_iff_ne.2 (by omega)
      have z1 : ((t : Int) + 1 == 0) = false := beq_eq_false_iff_ne.2 (by omega)
      have i1 : (t : Int) < ((t + 1 : Nat) : Int) := by omega
      have i2 : (t : Int) < (t : Int) + 1 := by omega
      have HFI := Lib.hid hLF.out.ent
      clear hX hO hcF
      go_wp2_with (first | (go_at_call 52; (with_reducible refine (CO.out _).mono ?_); rintro e w' ⟨rfl, rfl⟩))
      go_loopw [44] (fun y wt => ∃ (i : Nat) (P : List Int), i ≤ t + 1 ∧ y = .int .i64 i ∧ OwI wt w.heap.size 3 (some ⟨g0, 0, none⟩) (t + 1) c P ∧ Hid (In 0 9972 P) ∧ Below w.heap.size w wt) (fun y _ => t + 1 - (intOf y).toNat)
      case atStart => exact ⟨0, F, Nat.zero_le _, rfl, hF, HFI.out, hb⟩
      case round =>
        clear hF hb x1
        obtain ⟨i, P, hi, rfl, hP, hPI, hb⟩ := hrel
        by_cases hlt : i < t + 1
        · have j1 : (i : Int) < ((t + 1 : Nat) : Int) := by omega
          have j2 : (i : Int) < (t : Int) + 1 := by omega
          obtain ⟨gz, hz, _, _, hcP, hfP⟩ := hP.at (by omega)
          cases hz
          have x1 := hcP i hlt
          have f1 := hfP i
          have HLP := Lib.hid hP.len_eq
          have bY := hPI.out i (by rw [HLP.out]; exact hlt)
          obtain ⟨Y, hY⟩ : ∃ Y, ix P i = Y := ⟨_, rfl⟩
          rw [hY] at x1 bY
          have bm := mul_bd bY bO
          have u1 : IntKind.i64.wrap (Y * O) = Y * O := Go.IntWalk.i64_in _ (by omega)
          have u2 : (Y * O).tmod 9973 = Y * O % 9973 := Int.tmod_eq_emod_of_nonneg (by omega)
          have hP1 := hP.set (k := i) (Y * O % 9973)
          have hb1 := hb.setCell (p := ⟨g0, i, none⟩) hg0 (.int .i64 (Y * O % 9973))
          have HI1 : Hid (In 0 9972 (P.set i (Y * O % 9973))) := fun j hj => by
            rw [ix_set]
            rw [List.length_set] at hj
            have := hPI.out j hj
            split <;> omega
          clear hY bY bm hcP hfP hP hb hPI
          go_wp2
          generalize wr.setCell ⟨g0, i, none⟩ (.int .i64 (Y * O % 9973)) = W4 at *
          go_roundw
          case rel => exact ⟨i + 1, _, by omega, by go_num, hP1, HI1, hb1⟩
          case measure => simp [intOf]; omega
        · obtain rfl : t + 1 = i := by omega
          go_wp2
          go_ret2
          exact ⟨_, _, _, rfl, by omega, hTT.out, hb⟩

set_option maxHeartbeats 4000000 in
set_option maxRecDepth 100000 in
theorem resultCommon_walk (hf : RdI w a n ca f) (_ : Fit f) (hg : RdI w b m cb g) (_ : Fit g) :
    Calls Try.prog 5 #[.slice a n ca, .slice b m cb] w fun e w' => e = .returned (.bool true) ∧ Below w.heap.size w w' := by
  go_enter Try.func5, Try.ntmps5
  go_wp2_with (go_at_call 13; fail)
  refine (resultFact_any w).mono ?_
  rintro e w1 ⟨rfl, k1⟩
  go_wp2_with (go_at_call 14; fail)
  rcases tf : twoR f g with _ | x
  rotate_left
  · refine (result_Of_err (hf.below k1) (hg.below k1) tf).mono ?_
    rintro e w2 ⟨rfl, rfl⟩
    clear tf
    go_wp2
    go_ret
    exact ⟨rfl, k1⟩
  refine (result_Of_ok (hf.below k1) (hg.below k1) tf).mono ?_
  rintro e w2 ⟨rfl, b2⟩
  have k2 := below_tr k1 b2
  obtain ⟨f1, f2, f3, f4, f5, f6, f7, f8⟩ := twoR_none tf
  have LF : Ld f := ⟨f1, by omega, f3, f5⟩
  have LG : Ld g := ⟨f2, by omega, f4, f6⟩
  have hz : ZA g f ↔ resV f g = 0 := by
    rw [← zstart LF LG f7]
    unfold resV Eqm
    rw [Int.zero_emod]
  have C := Lib.hid (poly_Gcd_any (hf.below k2) (hg.below k2) LF LG hz)
  obtain ⟨V, hV⟩ : ∃ V, resV f g = V := ⟨_, rfl⟩
  rw [hV] at C ⊢
  clear hV hz LF LG f1 f2 f3 f4 f5 f6 f7 f8 tf b2
  go_wp2_with (go_at_call 20; fail)
  (with_reducible refine C.out.mono ?_)
  clear C
  rintro e w3 ⟨p, l, c, rfl, hl1, hlT, b3⟩
  have k3 := below_tr k2 b3
  have i1 : (0 : Int) < (l : Int) := by omega
  by_cases hv : V = 0
  · have z : (V == 0) = true := beq_iff_eq.2 hv
    have i2 : (1 : Int) < (l : Int) := by have := hlT.2 hv; omega
    clear hlT hv
    go_wp2
    go_ret
    exact ⟨rfl, k3⟩
  · have z : (V == 0) = false := beq_eq_false_iff_ne.2 hv
    have i2 : (l : Int) ≤ 1 := by
      have : ¬ 1 < l := fun q => hv (hlT.1 q)
      omega
    clear hlT hv
    go_wp2
    go_ret
    refine ⟨?_, k3⟩
    have q : decide (1 < (l : Int)) = false := decide_eq_false (by omega)
    show Ending.returned (Value.bool !decide (1 < (l : Int))) = _
    rw [q]
    rfl
end
end Go.Proofs.Ytoahegjjffggaaa

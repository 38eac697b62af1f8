/-
  solve.scale, slices.Clone, slices.Equal, solve.product walked.
-/
import Derived.Test.YtohconpfpecldaaRows
import Derived.Test.YtohconpfpecldaaLib
import Derived.Test.YtohconpfpecldaaNum
import Derived.Test.YtohconpfpecldaaMatD
import Derived.Test.YtohconpfpecldaaRect
import Derived.Test.YtohconpfpecldaaGaussW
import Derived.Test.YtohconpfpecldaaRefTo
import Derived.Test.YtohconpfpecldaaNullW
import Derived.StillTailTactics
namespace Go.Proofs.Ytohconpfpecldaa
open Go.RowKit Go.Rk

set_option maxHeartbeats 4000000 in
theorem scale_any {B g r n c cap : Nat} {D C : Nat → Nat} {M : List (List Int)} {ov : Int} {w : World} (h : OwMD w B 22 3 g D C n cap M) (dM : Dm n c M) (eM : EntR 0 9972 n c M) (hr : r < n) (hov : 0 ≤ ov ∧ ov ≤ 9972) (hc : 1 ≤ c ∧ c ≤ 100) :
    Calls Try.prog 92 #[.slice (some ⟨D r, 0, none⟩) c (C r), .int .i64 ov] w fun e w' => e = .returned (.tuple #[]) ∧ ∃ P, OwMD w' B 22 3 g D C n cap P ∧ IsR n c P (scaleE M r ov) ∧ KeptBut n D w w' ∧ Below B w w' := by
  have HD := Lib.hid dM
  have HE := Lib.hid eM
  clear dM eM
  go_enter Try.func92, Try.ntmps92
  go_wp2
  go_loopw [7] (fun v wr => ∃ (k : Nat) (P : List (List Int)), k ≤ c ∧ v = .int .i64 k ∧ OwMD wr B 22 3 g D C n cap P ∧ Hid (IsR n c P (fun i j => if i = r ∧ j < k then en M r j * ov % 9973 else en M i j)) ∧ KeptBut n D w wr ∧ Below B w wr) (fun v _ => c - (intOf v).toNat)
  case atStart => exact ⟨0, M, Nat.zero_le _, rfl, h, ⟨HD.out, fun i j _ _ => by simp⟩, KeptBut.refl _ _ _, Below.refl _ _⟩
  case round =>
    obtain ⟨k, P, hk, rfl, hd, hi, kb, hb⟩ := hrel
    by_cases hlt : k < c
    · have x2 := hd.cellI hr (j := k) (by rw [hi.out.1.2 r hr]; exact hlt)
      have x3 := hd.frozenI hr (by rw [hi.out.1.2 r hr]; omega) k
      have x4 : en P r k = en M r k := by rw [hi.out.2 r k hr hlt]; simp
      rw [x4] at x2
      have m1 := HE.out r k hr hlt
      have p1 := mul_bd m1 hov
      obtain ⟨T, hT⟩ : ∃ T, T = en M r k * ov := ⟨_, rfl⟩
      rw [← hT] at p1
      have u1 : IntKind.i64.wrap (en M r k * ov) = T := by rw [hT]; exact Go.IntWalk.i64_in _ (by omega)
      have u2 : T.tmod 9973 = T % 9973 := Int.tmod_eq_emod_of_nonneg (by omega)
      have u3 : IntKind.i64.wrap (T % 9973) = T % 9973 := Go.IntWalk.i64_in _ (by omega)
      have b3 : (k : Int) < (c : Int) := by omega
      have HT := Lib.hid hT
      clear hT x4
      go_wp2
      go_roundw
      case rel => exact ⟨k + 1, _, by omega, by go_num, hd.set matTy.ne hr _, ⟨hi.out.1.setE _ _ _, fun i j h3 h4 => by
        rw [hi.out.1.en_set _ h3 h4]
        by_cases e : r = i ∧ k = j
        · rw [if_pos e, HT.out]; dsimp only; rw [if_pos ⟨e.1.symm, by omega⟩, e.2]
        · rw [if_neg e, hi.out.2 i j h3 h4]; dsimp only
          by_cases e2 : i = r ∧ j < k
          · rw [if_pos e2, if_pos ⟨e2.1, by omega⟩]
          · rw [if_neg e2, if_neg fun e3 => by omega]⟩, kb.set hr _, hb.setCell (p := ⟨D r, k, none⟩) (hd.lowI hr).1 _⟩
      case measure => simp [intOf]; omega
    · obtain rfl : k = c := by omega
      go_wp2
      go_end0
      refine ⟨by simp, P, hd, hi.out.congr fun i j _ h4 => ?_, kb, hb⟩
      unfold scaleE
      by_cases e : i = r
      · rw [if_pos ⟨e, h4⟩, if_pos e]
      · rw [if_neg fun e2 => e e2.1, if_neg e]

theorem Clone_any {b off n cap : Nat} {l : List Int} {w : World} (h : RdI w (some ⟨b, off, none⟩) n cap l) (hn : n ≤ 1000) :
    Calls Try.prog 91 #[.slice (some ⟨b, off, none⟩) n cap] w fun e w' => ∃ a' cap', e = .returned (.slice a' n cap') ∧ OwI w' w.heap.size 3 a' n cap' l ∧ Below w.heap.size w w' := by
  have HIT := Lib.hid intTy
  have he : ∀ w : World, (binOp .eql 22 (.slice (some ⟨b, off, none⟩) n cap) (.slice none 0 0)).run Try.prog w = .ok (.bool false) w := fun _ => rfl
  go_enter Try.func91, Try.ntmps91
  have h2 := h.below ((Below.refl w.heap.size w).alloc (Nat.le_refl _) (.cells #[] 3))
  have ho : OwI (w.alloc (.cells #[] 3)) w.heap.size 3 (some ⟨w.heap.size, 0, none⟩) 0 0 [] := ⟨rfl, World.ownsRow_made w #[] 0 (Nat.le_refl _) (Nat.zero_le _) rfl⟩
  go_wp2_with (at_builtin; refine wpList_append_ints HIT.out rfl (.tmp 5) (.tmp 6) rfl rfl rfl ho h2 (by omega) (by simp) ?_; intro a3 cap3 w3 ho3 hg3)
  have hb3 := below_grown ((Below.refl w.heap.size w).alloc (Nat.le_refl _) (.cells #[] 3)) ho (by simp) hg3
  rw [Nat.zero_add] at ho3
  go_ret
  exact ⟨a3, cap3, rfl, by simpa using ho3, hb3⟩
set_option maxHeartbeats 400000 in
theorem Equal_q {a a2 : Option Addr} {len cap len2 cap2 : Nat} {l m : List Int} {w : World} (h : RdI w a len cap l) (h2 : RdI w a2 len2 cap2 m) :
    Calls Try.prog 80 #[.slice a len cap, .slice a2 len2 cap2] w fun e w' => e = .returned (.bool (decide (l = m))) ∧ ∃ q, w' = w.drewN q := by
  have hm := h.len_max
  have E1 := Lib.hid h.len_eq
  have E2 := Lib.hid h2.len_eq
  by_cases hl : len = len2
  · subst hl
    go_enter Try.func80, Try.ntmps80
    go_wp2
    go_loopw [13] (fun i wr => ∃ k : Nat, k ≤ len ∧ i = .int .i64 k ∧ Hid (l.take k = m.take k) ∧ ∃ q, wr = w.drewN q) (fun i _ => len - (intOf i).toNat)
    case atStart => exact ⟨0, Nat.zero_le _, rfl, rfl, 0, rfl⟩
    case round =>
      obtain ⟨k, hk, rfl, heq, q, rfl⟩ := hrel
      by_cases hlt : k < len
      · obtain ⟨b, off, rfl, _, hc⟩ := h.at hlt
        obtain ⟨b2, off2, rfl, _, hc2⟩ := h2.at hlt
        have hc := hc k hlt
        have hc2 := hc2 k hlt
        have hlt' : (k : Int) < (len : Int) := by omega
        by_cases he : ix l k = ix m k
        · have He : (ix l k != ix m k) = false := by simp [he]
          have He2 := Lib.hid he
          clear he
          go_wp2
          go_quiet (fail)
          go_wp2
          go_roundw
          case rel => exact ⟨k + 1, by omega, by go_num, by unfold Hid; rw [take_succ_ix (by rw [E1.out]; exact hlt), take_succ_ix (by rw [E2.out]; exact hlt), heq.out, He2.out], q + nq, by simp⟩
          case measure => simp [intOf]; omega
        · have He : (ix l k != ix m k) = true := by simp [he]
          have He2 := Lib.hid he
          clear he
          go_wp2
          go_quiet (fail)
          go_wp2
          go_ret
          refine ⟨congrArg (fun b => Ending.returned (.bool b)) (decide_eq_false ?_).symm, q + nq, by simp [World.drewN_drewN]⟩
          intro hlm
          exact He2.out (by rw [hlm])
      · go_wp2
        go_ret
        refine ⟨congrArg (fun b => Ending.returned (.bool b)) (decide_eq_true ?_).symm, q, rfl⟩
        have := heq.out
        rwa [List.take_of_length_le (by rw [E1.out]; omega), List.take_of_length_le (by rw [E2.out]; omega)] at this
  · have hne : ((len : Int) != (len2 : Int)) = true := by simp; omega
    have Hl := Lib.hid hl
    clear hl
    go_enter Try.func80, Try.ntmps80
    go_wp2
    go_ret
    refine ⟨congrArg (fun b => Ending.returned (.bool b)) (decide_eq_false ?_).symm, 0, rfl⟩
    intro hlm
    exact Hl.out (by rw [← E1.out, ← E2.out, hlm])

/-- One row times x. -/
theorem at_any {ar ax : Option Addr} {c cr cx Bx : Nat} {row x : List Int} {w : World} (hr : RdI w ar c cr row) (hx : RdI w ax c cx x) (hb : w.cell? ⟨Bx, 0, none⟩ = some (.slice ax c cx)) (er : In 0 9972 row) (ex : In 0 9972 x) (hc : c ≤ 100) :
    Calls Try.prog 93 #[.slice ar c cr, .pointer (some ⟨Bx, 0, none⟩)] w fun e w' => e = .returned (.int .i64 (sumTo (fun j => ix row j * ix x j) c % 9973)) ∧ w = w' := by
  have bd : ∀ k, k ≤ c → 0 ≤ sumTo (fun j => ix row j * ix x j) k ∧ sumTo (fun j => ix row j * ix x j) k ≤ k * 99440784 := by
    intro k
    induction k with
    | zero => intro _; exact ⟨Int.le_refl _, Int.le_refl _⟩
    | succ k ih =>
      intro hk
      have h1 := ih (by omega)
      have m1 := er k (by rw [hr.len_eq]; omega)
      have m2 := ex k (by rw [hx.len_eq]; omega)
      have m3 := mul_bd m1 m2
      rw [sumTo]
      omega
  have HER := Lib.hid er
  have HEX := Lib.hid ex
  have HBD := Lib.hid bd
  have l1 := hr.len_eq
  have l2 := hx.len_eq
  clear er ex bd
  go_enter Try.func93, Try.ntmps93
  go_wp2
  go_loop [4, 9] (fun s v => ∃ (k : Nat) (S : Int), k ≤ c ∧ v = .int .i64 k ∧ s = .int .i64 S ∧ Hid (S = sumTo (fun j => ix row j * ix x j) k)) (fun _ v => c - (intOf v).toNat)
  case atStart => exact ⟨0, 0, Nat.zero_le _, rfl, rfl, rfl⟩
  case round =>
    obtain ⟨k, S, hk, rfl, rfl, HS⟩ := hrel
    have bS : 0 ≤ S ∧ S ≤ 9944078400 := by have := HBD.out k hk; have := HS.out; omega
    by_cases hlt : k < c
    · obtain ⟨p1, o1, rfl, _, hc1⟩ := hr.at hlt
      obtain ⟨p2, o2, rfl, _, hc2⟩ := hx.at hlt
      replace hc1 := hc1 k hlt
      replace hc2 := hc2 k hlt
      have m1 := HER.out k (by omega)
      have m2 := HEX.out k (by omega)
      have m3 := mul_bd m1 m2
      have HS2 : Hid (S + ix row k * ix x k = sumTo (fun j => ix row j * ix x j) (k + 1)) := by unfold Hid; rw [sumTo, HS.out]
      generalize ix row k = X at *
      generalize ix x k = Y at *
      obtain ⟨T, hT⟩ : ∃ T, T = X * Y := ⟨_, rfl⟩
      rw [← hT] at m3 HS2
      have u1 : IntKind.i64.wrap (X * Y) = T := by rw [hT]; exact Go.IntWalk.i64_in _ (by omega)
      have u2 : IntKind.i64.wrap (S + T) = S + T := Go.IntWalk.i64_in _ (by omega)
      have hlt' : (k : Int) < (c : Int) := by omega
      clear hT
      go_wp2
      go_round
      case rel => exact ⟨k + 1, S + T, by omega, by go_num, rfl, HS2⟩
      case measure => simp [intOf]; omega
    · obtain rfl : k = c := by omega
      go_wp2_with (go_at_call 62; refine (Field_any _ _).mono ?_; rintro e w' ⟨rfl, rfl⟩)
      go_ret
      exact ⟨by rw [← HS.out]; rfl, rfl⟩

set_option maxHeartbeats 2000000 in
theorem product_any {a b : Option Addr} {n c ca cb : Nat} {M : List (List Int)} {x : List Int} {w : World} (hM : RdM w a n ca M) (d : Dm n c M) (he : EntR 0 9972 n c M) (hx : RdI w b c cb x) (hi : In 0 9972 x) (hn : n ≤ 1000) (hc : 1 ≤ c ∧ c ≤ 100) :
    Calls Try.prog 81 #[.slice a n ca, .slice b c cb] w fun e w' => ∃ a' cap', e = .returned (.slice a' n cap') ∧ OwI w' w.heap.size 3 a' n cap' (toN M x c n) ∧ Below w.heap.size w w' := by
  have HIT := Lib.hid intTy
  have HD := Lib.hid d
  have HE := Lib.hid he
  have HI := Lib.hid hi
  clear d he hi
  have hmf : ∀ (fn : Fn) (first cap : Array Value) (w : World), (Instr.makeFunc fn first cap).run Try.prog w = .ok (.func fn first cap) w := fun _ _ _ _ => rfl
  have hb0 := (Below.refl w.heap.size w).alloc (Nat.le_refl _) (.cells #[.slice b c cb] 22)
  have hbx : (w.alloc (.cells #[.slice b c cb] 22)).cell? ⟨w.heap.size, 0, none⟩ = some (.slice b c cb) := by simp
  have hM0 := hM.below hb0
  have hx0 := hx.below hb0
  go_enter Try.func81, Try.ntmps81
  go_wp2
  generalize w.alloc (.cells #[.slice b c cb] 22) = w0 at *
  go_loopw [6, 12] (fun v i wr => ∃ (k : Nat) (q : Option Addr) (cq : Nat), k ≤ n ∧ i = .int .i64 k ∧ v = .slice q k cq ∧ OwI wr w0.heap.size 3 q k cq (toN M x c k) ∧ Below w0.heap.size w0 wr) (fun _ i _ => n - (intOf i).toNat)
  case atStart => exact ⟨0, none, 0, Nat.zero_le _, rfl, rfl, OwI.nil _ _ _, Below.refl _ _⟩
  case round =>
    obtain ⟨k, q, cq, hk, rfl, rfl, ho, hb⟩ := hrel
    by_cases hlt : k < n
    · have hlt' : (k : Int) < (n : Int) := by omega
      obtain ⟨bm, om, rfl, ar, cr, hcr, hrd⟩ := (hM0.below hb).rowIn HD.out hlt
      have C := Lib.hid (at_any hrd (hx0.below hb) (hb.keep (World.block_lt_of_cell? _ _ hbx) hbx) (fun j hj => by
        rw [HD.out.2 k hlt] at hj
        exact HE.out k j hlt hj) HI.out hc.2)
      rw [show sumTo (fun j => ix (rowOf M k) j * ix x j) c % 9973 = toV M x c k from rfl] at C
      obtain ⟨V, hV⟩ : ∃ V, toV M x c k = V := ⟨_, rfl⟩
      rw [hV] at C
      have HV := Lib.hid hV
      have hsz := hb.size
      clear hV hrd
      go_wp2_with (first | (go_at_call 93; (with_reducible refine C.out.mono ?_); rintro e w' ⟨rfl, rfl⟩) | (at_builtin; refine wpList_push_int HIT.out rfl (.tmp 16) (.tmp 20) rfl rfl rfl (ho.alloc _) (z := V) (by simp) (by decide) (by decide) (by omega) (by simp; omega) ?_; intro a4 cap4 w4 ho4 hg4))
      have hb4 := below_grown (hb.alloc hsz (.cells #[.int .i64 V] 3)) (ho.alloc (.cells #[.int .i64 V] 3)) (by simp; omega) hg4
      go_roundw
      case rel => exact ⟨k + 1, a4, cap4, by omega, by go_num, rfl, by rw [toN_succ, HV.out]; exact ho4, hb4⟩
      case measure => simp [intOf]; omega
    · obtain rfl : k = n := by omega
      go_wp2
      go_ret
      exact ⟨q, cq, rfl, ho.mono hb0.size, hb0.trans (hb.mono hb0.size)⟩
end Go.Proofs.Ytohconpfpecldaa

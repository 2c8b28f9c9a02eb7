/- The document's answers of layers 1 and 2, as far as keys need them. -/
import Derived.Test.YtckhefkedkipeabUnpack
namespace Go.Proofs.Ytckhefkedkipeab
open Go.RowKit

set_option maxHeartbeats 400000 in
theorem rOrdered_ok (v : Value) (l : List Int) (w : World) (hv : RdB w v l) (hl : l.length ≤ 70368744177000) : Calls Try.prog 44 #[v] w (OutB w (orderedL l)) := by
  obtain ⟨A, c, rfl, hc⟩ := hv.shape
  go_enter Try.func44, Try.ntmps44
  go_wp2
  go_loopw [3, 4] (fun b x wr => ∃ k : Nat, k ≤ l.length ∧ x = .int .i64 k ∧ OwB wr b (ordP (l.take k)) ∧ From w.heap.size b ∧ Ext w wr) (fun _ x _ => l.length - (intOf x).toNat)
  case atStart => exact ⟨0, by omega, rfl, OwB.nil _, From.nil _ _ _, Ext.refl _⟩
  case round =>
    obtain ⟨k, hk, rfl, ho, hf, he⟩ := hrel
    have hlen := ordP_len (l.take k)
    have hlt' : (l.take k).length ≤ k := List.length_take_le _ _
    by_cases hlt : k < l.length
    · have hs := ordP_take l k hlt
      obtain ⟨ad, rfl, hcell⟩ := (hv.ext he).at_ k hlt
      by_cases h0 : gt l k = 0
      · rw [if_pos h0] at hs
        have HS := Lib.hid hs
        clear hs
        rw [h0] at hcell
        have H0 := Lib.hid h0
        clear h0
        go_wp2_with (first
          | (at_builtin; refine appB rfl (.tmp 11) (.tmp 16) rfl rfl rfl (ho.alloc _) (RdB.lit wr [_]) (by simp; omega) ?_; intro b1 w1 ho1 hg1 hat1; have he1 := ((he.alloc _).grown hg1 hf); have hf1 := From.app hf hat1 (he.alloc _).size; have hcell1 := ((hv.ext he1).cell0 hlt).trans (congrArg (fun n => some (Value.int .u8 n)) H0.out))
          | (at_builtin; refine appB rfl (.tmp 23) (.tmp 24) rfl rfl rfl (ho1.alloc _) (RdB.lit w1 [_]) (by simp; omega) ?_; intro b2 w2 ho2 hg2 hat2; have he2 := ((he1.alloc _).grown hg2 hf1); have hf2 := From.app hf1 hat2 (he1.alloc _).size))
        go_roundw
        case rel => exact ⟨k + 1, by omega, by go_num, by rw [HS.out, H0.out]; simpa using ho2, hf2, he2⟩
        case measure => simp [intOf]; omega
      · rw [if_neg h0] at hs
        have HS := Lib.hid hs
        clear hs
        have hb : ((gt l k : Int) == 0) = false := by simpa using h0
        go_wp2_with (at_builtin; refine appB rfl (.tmp 11) (.tmp 16) rfl rfl rfl (ho.alloc _) (RdB.lit wr [_]) (by simp; omega) ?_; intro b1 w1 ho1 hg1 hat1; have he1 := ((he.alloc _).grown hg1 hf); have hf1 := From.app hf hat1 (he.alloc _).size; have hcell1 := (hv.ext he1).cell0 hlt)
        go_roundw
        case rel => exact ⟨k + 1, by omega, by go_num, by rw [HS.out]; exact ho1, hf1, he1⟩
        case measure => simp [intOf]; omega
    · have hkl : k = l.length := by omega
      have HO : Hid (OwB wr u3 (ordP l)) := by rw [hkl, List.take_length] at ho; exact ho
      have hkl2 : l.length ≤ k := by omega
      have hln := ordP_len l
      clear hkl ho
      go_wp2_with (at_builtin; refine appB rfl (.tmp 26) (.tmp 27) rfl rfl rfl (HO.out.alloc _) (RdB.lit wr [_, _]) (by simp; omega) ?_; intro b1 w1 ho1 hg1 hat1; have he1 := ((he.alloc _).grown hg1 hf); have hf1 := From.app hf hat1 (he.alloc _).size)
      go_ret
      exact ⟨_, rfl, ho1, hf1, he1⟩

set_option maxHeartbeats 400000 in
theorem eight_ok (n : Int) (h0 : 0 ≤ n) (h1 : n ≤ 9223372036854775807) (w : World) : Calls Try.prog 60 #[.int .u64 n] w (OutB w (be 8 n)) := by
  go_enter Try.func60, Try.ntmps60
  go_wp2
  go_loopw [0, 3, 4] (fun x b i wr => ∃ (k : Nat) (y : Int) (T : List Int), k ≤ 8 ∧ T.length ≤ 8 ∧ 0 ≤ y ∧ y ≤ n ∧ x = .int .u64 y ∧ i = .int .i64 k ∧ T.length + (8 - k) ≤ 8 ∧ Hid (be (8 - k) y ++ T = be 8 n) ∧ OwB wr b T ∧ From w.heap.size b ∧ Ext w wr) (fun _ _ i _ => (8 - intOf i).toNat)
  case atStart => exact ⟨0, n, [], by omega, by simp, h0, by omega, rfl, rfl, by simp, by simp [Hid], OwB.nil _, From.nil _ _ _, Ext.refl _⟩
  case round =>
    obtain ⟨k, y, T, hk, hT8, hy0, hyn, rfl, rfl, hT, hb, ho, hf, he⟩ := hrel
    by_cases hlt : k < 8
    · have hb' := hb.out
      rw [show 8 - k = (8 - (k + 1)) + 1 by omega, be_succ, List.append_assoc] at hb'
      have HB := Lib.hid hb'
      clear hb hb'
      go_wp2_with (at_builtin; refine appB rfl _ _ rfl rfl rfl (OwB.lit wr [_] (by simp)) (ho.rd.alloc _) (by simp; omega) ?_; intro b1 w1 ho1 hg1 hat1; have he1 := ((he.alloc _).grown hg1 (From.new w.heap.size _ _ _ _ he.size)); have hf1 := From.app (From.new w.heap.size _ _ _ _ he.size) hat1 (he.alloc _).size)
      go_roundw
      case rel => exact ⟨k + 1, y / 256, [y % 256] ++ T, by omega, by simp; omega, by omega, by omega, rfl, by go_num, by simp; omega, HB.out, ho1, hf1, he1⟩
      case measure => simp [intOf]; omega
    · have hk8 : k = 8 := by omega
      have hb' := hb.out
      rw [hk8] at hb'
      have HB : Hid (T = be 8 n) := hb'
      have hk9 : 8 ≤ k := by omega
      clear hk8 hb hb'
      go_wp2
      go_ret
      exact ⟨_, rfl, by rw [← HB.out]; exact ho, hf, he⟩

set_option maxHeartbeats 400000 in
theorem rRising_ok (n : Int) (h1 : n ≤ 9223372036854775807) (h2 : -9223372036854775808 ≤ n) (w : World) : Calls Try.prog 57 #[.int .i64 n] w (OutBN w (risingL n)) := by
  by_cases h0 : n < 0
  · have hr : risingL n = ([], 1) := by simp [risingL, h0]
    rw [hr]
    go_enter Try.func57, Try.ntmps57
    go_wp2
    go_ret2
    exact ⟨_, rfl, OwB.nil _, From.nil _ _ _, Ext.refl _⟩
  · have hr : risingL n = (be 8 n, 0) := by simp [risingL, h0]
    rw [hr]
    go_enter Try.func57, Try.ntmps57
    go_wp2_with fail
    refine (eight_ok n (by omega) h1 _).mono ?_
    rintro e w1 ⟨r, rfl, ho, hf, he⟩
    go_wp2
    go_ret2
    exact ⟨_, rfl, ho, hf, he⟩
set_option maxHeartbeats 400000 in
theorem rFalling_ok (n : Int) (h1 : n ≤ 9223372036854775807) (h2 : -9223372036854775808 ≤ n) (w : World) : Calls Try.prog 45 #[.int .i64 n] w (OutBN w (fallingL n)) := by
  by_cases h0 : n < 0
  · have hr : fallingL n = ([], 1) := by simp [fallingL, h0]
    rw [hr]
    go_enter Try.func45, Try.ntmps45
    go_wp2
    go_ret2
    exact ⟨_, rfl, OwB.nil _, From.nil _ _ _, Ext.refl _⟩
  · have hr : fallingL n = risingL (9223372036854775807 - n) := by simp [fallingL, h0]
    rw [hr]
    go_enter Try.func45, Try.ntmps45
    go_wp2_with fail
    refine (rRising_ok _ (by omega) (by omega) _).mono ?_
    rintro e w1 ⟨r, rfl, ho, hf, he⟩
    go_wp2
    go_ret2
    exact ⟨_, rfl, ho, hf, he⟩

set_option maxHeartbeats 400000 in
theorem rout_ok (n lo hi : Int) (w : World) : Calls Try.prog 43 #[.int .i64 n, .int .i64 lo, .int .i64 hi] w fun e w' => e = .returned (.bool (outN n lo hi)) ∧ w = w' := by
  by_cases h : n < lo
  · have hd : decide (n < lo) = true := by simpa using h
    go_enter Try.func43, Try.ntmps43
    go_wp2
    go_ret
    exact ⟨by rw [outN, hd, Bool.true_or]; rfl, rfl⟩
  · have hd : decide (n < lo) = false := by simpa using h
    go_enter Try.func43, Try.ntmps43
    go_wp2
    go_ret
    exact ⟨by rw [outN, hd, Bool.false_or]; rfl, rfl⟩
set_option maxHeartbeats 1000000 in
theorem rCheck_ok (r q x : Value) (e : Ent) (w : World) (hr : RdE w r q x e) (hf : e.Fits) : Calls Try.prog 39 #[.agg (entCells r q x e)] w (OutN w (checkL e)) := by
  obtain ⟨C, hC⟩ : ∃ C, C = checkL e := ⟨_, rfl⟩
  rw [← hC]
  unfold checkL at hC
  obtain ⟨A1, c1, rfl, h1⟩ := hr.row.shape
  obtain ⟨A2, c2, rfl, h2⟩ := hr.qual.shape
  obtain ⟨A3, c3, rfl, h3⟩ := hr.value.shape
  have HC := Lib.hid hC
  have f1 := hf.row
  have f2 := hf.qual
  have f3 := hf.value
  clear hC hr hf
  unfold entCells
  generalize e.row.length = n1 at *
  generalize e.qual.length = n2 at *
  generalize e.value.length = n3 at *
  go_enter Try.func39, Try.ntmps39
  go_wp2_with (go_at_call 43; refine (rout_ok _ _ _ _).mono ?_; rintro e w' ⟨rfl, rfl⟩)
  all_goals
    go_ret
    refine ⟨ret_int ?_, (Ext.refl _).alloc _⟩
    rw [HC.out]
    repeat' split
    all_goals first
      | rfl
      | (exfalso; omega)
      | (exfalso; simp_all; done)
      | (exfalso; simp_all; omega)
end Go.Proofs.Ytckhefkedkipeab

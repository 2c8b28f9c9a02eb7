/- The functions of package wire, as functions on lists of numbers. -/
import Derived.Test.YtckhefkedkipeaaBytes
import Derived.Deep.LoopGhost
namespace Go.Proofs.Ytckhefkedkipeaa
open Go.RowKit

def uintF : Nat → Int → List Int
  | 0, v => [v]
  | k + 1, v => if 128 ≤ v then Go.bits .or .u8 (v % 256) 128 :: uintF k (v / 128) else [v]
def uintL (v : Int) : List Int := uintF 9 v
theorem uintF_len (k : Nat) : ∀ v, (uintF k v).length ≤ k + 1 := by
  induction k with
  | zero => intro v; simp [uintF]
  | succ k ih => intro v; unfold uintF; split <;> simp; exact ih _

theorem uint_step (k : Nat) (y : Int) (h : y < 128 ^ (k + 1)) (h1 : 128 ≤ y) : ∃ j, k = j + 1 ∧ y / 128 < 128 ^ (j + 1) := by
  match k with
  | 0 => simp at h; omega
  | j + 1 =>
    refine ⟨j, rfl, ?_⟩
    rw [Int.pow_succ] at h
    omega

set_option maxHeartbeats 400000 in
theorem Uint_ok (v : Int) (h0 : 0 ≤ v) (h1 : v < 18446744073709551616) (w : World) : Calls Try.prog 64 #[.int .u64 v] w (OutB w (uintL v)) := by
  have H0 := Lib.hid (show v < 128 ^ (9 + 1) by have : (128 : Int) ^ (9 + 1) = 1180591620717411303424 := by decide
                                                omega)
  go_enter Try.func64, Try.ntmps64
  go_wp2
  go_loopw [0, 3] (fun x b wr => ∃ (k : Nat) (y : Int) (l : List Int), x = .int .u64 y ∧ 0 ≤ y ∧ y ≤ v ∧ Hid (y < 128 ^ (k + 1)) ∧ l.length + k ≤ 9 ∧ Hid (l ++ uintF k y = uintL v) ∧ OwB wr b l ∧ From w.heap.size b ∧ Ext w wr) (fun x _ _ => (intOf x).toNat)
  case atStart => exact ⟨9, v, [], rfl, h0, by omega, H0, by simp, rfl, OwB.nil _, From.nil _ _ _, Ext.refl _⟩
  case round =>
    obtain ⟨k, y, l, rfl, hy0, hyv, hk, hlk, hl, hown, hin, hext⟩ := hrel
    by_cases hc : 128 ≤ y
    · obtain ⟨j, rfl, hj⟩ := uint_step k y hk.out hc
      have HJ := Lib.hid hj
      clear hj hk
      go_wp2_with (at_builtin; refine appB rfl _ _ rfl rfl rfl (hown.alloc _) (RdB.lit wr [_]) (by simp; omega) ?_; intro b' w1 hown1 hg1 hat1)
      go_roundw
      case rel =>
        refine ⟨j, y / 128, l ++ [Go.bits .or .u8 (y % 256) 128], rfl, by omega, by omega, HJ.out, by simp; omega, ?_, hown1, ?_, ?_⟩
        · have := hl.out
          simp only [uintF, if_pos hc] at this
          show _ = _
          simpa using this
        · exact From.app hin hat1 (hext.alloc _).size
        · exact ((hext.alloc _).grown hg1 hin)
      case measure => simp [intOf]; omega
    · have hy : uintF k y = [y] := by cases k <;> simp [uintF, hc]
      have HL := Lib.hid (show l ++ [y] = uintL v by rw [← hy]; exact hl.out)
      clear hl hy
      go_wp2_with (at_builtin; refine appB rfl _ _ rfl rfl rfl (hown.alloc _) (RdB.lit wr [_]) (by simp; omega) ?_; intro b' w1 hown1 hg1 hat1)
      rw [HL.out] at hown1
      go_ret
      exact ⟨_, rfl, hown1, From.app hin hat1 (hext.alloc _).size, (hext.alloc _).grown hg1 hin⟩

def bytesL (l : List Int) : List Int := uintL l.length ++ l
set_option maxHeartbeats 400000 in
theorem Bytes_ok (v : Value) (l : List Int) (w : World) (hv : RdB w v l) (hl : l.length ≤ 140737488355000) : Calls Try.prog 41 #[v] w (OutB w (bytesL l)) := by
  obtain ⟨A, c, rfl, hc⟩ := hv.shape
  have hu := uintF_len 9 l.length
  go_enter Try.func41, Try.ntmps41
  go_wp2_with fail
  refine (Uint_ok _ (by omega) (by omega) _).mono ?_
  rintro e w1 ⟨r, rfl, ho, hf, he⟩
  go_wp2_with (at_builtin; refine appB rfl _ _ rfl rfl rfl ho (hv.ext he) (by unfold uintL; omega) ?_; intro b' w2 hown1 hg1 hat1)
  go_ret
  exact ⟨_, rfl, hown1, From.app hf hat1 he.size, he.grown hg1 hf⟩

def ordP (l : List Int) : List Int := l.flatMap fun c => if c = 0 then [c, 255] else [c]
def orderedL (l : List Int) : List Int := ordP l ++ [0, 1]
theorem ordP_nil : ordP [] = [] := rfl
theorem ordP_snoc (l : List Int) (c : Int) : ordP (l ++ [c]) = ordP l ++ if c = 0 then [c, 255] else [c] := by simp [ordP]
theorem ordP_cons (c : Int) (l : List Int) : ordP (c :: l) = (if c = 0 then [c, 255] else [c]) ++ ordP l := by simp [ordP]
theorem ordP_len (l : List Int) : (ordP l).length ≤ 2 * l.length := by
  induction l with
  | nil => simp [ordP]
  | cons a l ih => rw [ordP_cons]; split <;> simp <;> omega
theorem ordP_take (l : List Int) (k : Nat) (h : k < l.length) : ordP (l.take (k + 1)) = ordP (l.take k) ++ if gt l k = 0 then [gt l k, 255] else [gt l k] := by rw [take_gt l k h, ordP_snoc]
set_option maxHeartbeats 400000 in
theorem Ordered_ok (v : Value) (l : List Int) (w : World) (hv : RdB w v l) (hl : l.length ≤ 70368744177000) : Calls Try.prog 61 #[v] w (OutB w (orderedL l)) := by
  obtain ⟨A, c, rfl, hc⟩ := hv.shape
  go_enter Try.func61, Try.ntmps61
  go_wp2_with (at_make; refine makeB rfl _ _ rfl rfl rfl (by omega) (by omega) (by omega) ?_; intro b0 w0 ho0 hf0 he0)
  go_loopw [3, 12] (fun b x wr => ∃ k : Nat, k ≤ l.length ∧ x = .int .i64 k ∧ OwB wr b (ordP (l.take k)) ∧ From w.heap.size b ∧ Ext w wr) (fun _ x _ => l.length - (intOf x).toNat)
  case atStart => exact ⟨0, by omega, rfl, ho0, hf0, he0⟩
  case round =>
    obtain ⟨k, hk, rfl, ho, hf, he⟩ := hrel
    have hlen := ordP_len (l.take k)
    have hlt' : (l.take k).length ≤ k := List.length_take_le _ _
    by_cases hlt : k < l.length
    · have hs := ordP_take l k hlt
      obtain ⟨ad, rfl, hcell⟩ := (hv.ext he).at_ k hlt
      by_cases h0 : gt l k = 0
      · rw [if_pos h0] at hs
        have HS := Lib.hid hs
        clear hs
        rw [h0] at hcell
        have H0 := Lib.hid h0
        clear h0
        go_wp2_with (first
          | (at_builtin; refine appB rfl (.tmp 16) (.tmp 18) rfl rfl rfl (ho.alloc _) (RdB.lit wr [_]) (by simp; omega) ?_; intro b1 w1 ho1 hg1 hat1; have he1 := ((he.alloc _).grown hg1 hf); have hf1 := From.app hf hat1 (he.alloc _).size)
          | (at_builtin; refine appB rfl (.tmp 22) (.tmp 23) rfl rfl rfl (ho1.alloc _) (RdB.lit w1 [_]) (by simp; omega) ?_; intro b2 w2 ho2 hg2 hat2; have he2 := ((he1.alloc _).grown hg2 hf1); have hf2 := From.app hf1 hat2 (he1.alloc _).size))
        go_roundw
        case rel => exact ⟨k + 1, by omega, by go_num, by rw [HS.out, H0.out]; simpa using ho2, hf2, he2⟩
        case measure => simp [intOf]; omega
      · rw [if_neg h0] at hs
        have HS := Lib.hid hs
        clear hs
        have hb : ((gt l k : Int) == 0) = false := by simpa using h0
        go_wp2_with (at_builtin; refine appB rfl (.tmp 16) (.tmp 18) rfl rfl rfl (ho.alloc _) (RdB.lit wr [_]) (by simp; omega) ?_; intro b1 w1 ho1 hg1 hat1; have he1 := ((he.alloc _).grown hg1 hf); have hf1 := From.app hf hat1 (he.alloc _).size)
        go_roundw
        case rel => exact ⟨k + 1, by omega, by go_num, by rw [HS.out]; exact ho1, hf1, he1⟩
        case measure => simp [intOf]; omega
    · have hkl : k = l.length := by omega
      have HO : Hid (OwB wr u3 (ordP l)) := by rw [hkl, List.take_length] at ho; exact ho
      have hkl2 : l.length ≤ k := by omega
      have hln := ordP_len l
      clear hkl ho
      go_wp2_with (at_builtin; refine appB rfl (.tmp 26) (.tmp 27) rfl rfl rfl (HO.out.alloc _) (RdB.lit wr [_, _]) (by simp; omega) ?_; intro b1 w1 ho1 hg1 hat1; have he1 := ((he.alloc _).grown hg1 hf); have hf1 := From.app hf hat1 (he.alloc _).size)
      go_ret
      exact ⟨_, rfl, ho1, hf1, he1⟩

/-- The lowest m bytes of a number, the highest first. -/
def be : Nat → Int → List Int
  | 0, _ => []
  | m + 1, y => be m (y / 256) ++ [y % 256]
theorem be_succ (m : Nat) (y : Int) : be (m + 1) y = be m (y / 256) ++ [y % 256] := rfl
theorem be_len (m : Nat) : ∀ y, (be m y).length = m := by
  induction m with
  | zero => intro y; rfl
  | succ m ih => intro y; simp [be, ih]
def risingL (n : Int) : List Int × Int := if n < 0 then ([], 1) else (be 8 n, 0)
theorem rising_set (m : Nat) (T : List Int) (y : Int) : (List.replicate (m + 1) 0 ++ T).set m y = List.replicate m 0 ++ y :: T := by
  rw [List.replicate_succ', List.append_assoc, List.set_append_right _ _ (by simp)]
  simp
set_option maxHeartbeats 400000 in
theorem Rising_ok (n : Int) (h1 : n ≤ 9223372036854775807) (h2 : -9223372036854775808 ≤ n) (w : World) : Calls Try.prog 71 #[.int .i64 n] w (OutBN w (risingL n)) := by
  by_cases h0 : n < 0
  · have hr : risingL n = ([], 1) := by simp [risingL, h0]
    rw [hr]
    go_enter Try.func71, Try.ntmps71
    go_wp2
    go_ret2
    exact ⟨_, rfl, OwB.nil _, From.nil _ _ _, Ext.refl _⟩
  · have hr : risingL n = (be 8 n, 0) := by simp [risingL, h0]
    rw [hr]
    go_enter Try.func71, Try.ntmps71
    go_wp2_with (at_make; refine makeB rfl _ _ rfl rfl rfl (by omega) (by omega) (by omega) ?_; intro b0 w0 ho0 hf0 he0)
    obtain ⟨g, cap, rfl, hc1, hc2⟩ := ho0.form (by simp)
    have hg := hf0 g rfl
    go_loopw [0, 5] (fun x i wr => ∃ (m : Nat) (y : Int) (T : List Int), m ≤ 8 ∧ T.length + m = 8 ∧ 0 ≤ y ∧ y ≤ n ∧ x = .int .i64 y ∧ i = .int .i64 ((m : Int) - 1) ∧ Hid (be m y ++ T = be 8 n) ∧
      OwB wr (.slice (some ⟨g, 0, none⟩) 8 cap) (List.replicate m 0 ++ T) ∧ Ext w wr) (fun _ i _ => (intOf i + 1).toNat)
    case atStart => exact ⟨8, n, [], by omega, rfl, by omega, by omega, rfl, rfl, by simp [Hid], by simpa using ho0, he0⟩
    case round =>
      obtain ⟨m, y, T, hm, hT, hy0, hyn, rfl, rfl, hb, ho, he⟩ := hrel
      cases m with
      | succ m =>
        have hm2 : (0 : Int) ≤ ((m + 1 : Nat) : Int) - 1 := by omega
        have hm3 : (((m + 1 : Nat) : Int) - 1) = m := by omega
        obtain ⟨hc, hfz⟩ := ho.at_ m (by simp; omega)
        have hs := ho.set m (y % 256)
        rw [rising_set] at hs
        rw [hm3]
        clear hm3 hm2
        go_wp2
        go_roundw
        case rel =>
          refine ⟨m, y / 256, y % 256 :: T, by omega, by simp; omega, by omega, by omega, rfl, by go_num, ?_, hs, he.setCell hg _⟩
          have := hb.out
          rw [be_succ m y, List.append_assoc] at this
          exact this
        case measure => simp [intOf]
      | zero =>
        have hb' : T = be 8 n := hb.out
        have HB := Lib.hid hb'
        clear hb hb'
        go_wp2
        go_ret2
        exact ⟨_, rfl, by show OwB wr _ (be 8 n); rw [← HB.out]; exact ho, hf0, he⟩

def fallingL (n : Int) : List Int × Int := if n < 0 then ([], 1) else risingL (9223372036854775807 - n)
set_option maxHeartbeats 400000 in
theorem Falling_ok (n : Int) (h1 : n ≤ 9223372036854775807) (h2 : -9223372036854775808 ≤ n) (w : World) : Calls Try.prog 63 #[.int .i64 n] w (OutBN w (fallingL n)) := by
  by_cases h0 : n < 0
  · have hr : fallingL n = ([], 1) := by simp [fallingL, h0]
    rw [hr]
    go_enter Try.func63, Try.ntmps63
    go_wp2
    go_ret2
    exact ⟨_, rfl, OwB.nil _, From.nil _ _ _, Ext.refl _⟩
  · have hr : fallingL n = risingL (9223372036854775807 - n) := by simp [fallingL, h0]
    rw [hr]
    go_enter Try.func63, Try.ntmps63
    go_wp2_with fail
    refine (Rising_ok _ (by omega) (by omega) _).mono ?_
    rintro e w1 ⟨r, rfl, ho, hf, he⟩
    go_wp2
    go_ret2
    exact ⟨_, rfl, ho, hf, he⟩
end Go.Proofs.Ytckhefkedkipeaa

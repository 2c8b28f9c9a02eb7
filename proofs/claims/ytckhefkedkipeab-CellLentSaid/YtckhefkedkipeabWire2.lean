/- The readers of package wire, as functions on lists of numbers. -/
import Derived.Test.YtckhefkedkipeabWire
namespace Go.Proofs.Ytckhefkedkipeab
open Go.RowKit

def outsideL (l : List Int) (i : Int) : Bool := decide (i < 0) || decide ((l.length : Int) < i)
set_option maxHeartbeats 400000 in
theorem outside_ok (v : Value) (l : List Int) (i : Int) (w : World) (hv : RdB w v l) : Calls Try.prog 36 #[v, .int .i64 i] w fun e w' => e = .returned (.bool (outsideL l i)) ∧ w = w' := by
  obtain ⟨A, c, rfl, hc⟩ := hv.shape
  by_cases h : i < 0
  · have hd : decide (i < 0) = true := by simpa using h
    go_enter Try.func36, Try.ntmps36
    go_wp2
    go_ret
    exact ⟨by simp [outsideL, h], rfl⟩
  · have hd : decide (i < 0) = false := by simpa using h
    go_enter Try.func36, Try.ntmps36
    go_wp2
    go_ret
    exact ⟨by rw [outsideL, hd, Bool.false_or]; rfl, rfl⟩

theorem or64_range (a b : Int) : 0 ≤ bits .or .u64 a b ∧ bits .or .u64 a b < 18446744073709551616 := by
  have h : ∀ n : Nat, 0 ≤ IntKind.u64.wrap n ∧ IntKind.u64.wrap n < 18446744073709551616 := by
    intro n
    have e : IntKind.u64.wrap (n : Int) = (n : Int) % 18446744073709551616 := by simp [IntKind.wrap, IntKind.bits, IntKind.signed]
    omega
  exact h _

/-- Two numbers and a fault are told; nothing changes. -/
def Out3 (k : IntKind) (w : World) (r : Int × Int × Int) (e : Ending) (w' : World) : Prop :=
  e = .returned (.tuple #[.int k r.1, .int .i64 r.2.1, .int .i64 r.2.2]) ∧ w = w'

def acc7 (acc c : Int) (k : Nat) : Int := bits .or .u64 acc (IntKind.u64.wrap (IntKind.u64.wrap (bits .and .u8 c 127) * 2 ^ (7 * k)))
def rUint : List Int → Nat → Int → Int × Nat × Int
  | [], _, _ => (0, 0, 10)
  | c :: s, k, acc =>
    if k = 9 ∧ 1 < c then (0, 0, 13)
    else if c < 128 then (if c = 0 ∧ 0 < k then (0, 0, 11) else (acc7 acc c k, k + 1, 0))
    else rUint s (k + 1) (acc7 acc c k)
def finU (n : Int) (r : Int × Nat × Int) : Int × Int × Int := (r.1, if r.2.2 = 0 then n + r.2.1 else 0, r.2.2)
def readUintL (l : List Int) (i : Int) : Int × Int × Int := if outsideL l i then (0, 0, 1) else finU i (rUint (l.drop i.toNat) 0 0)

set_option maxHeartbeats 400000 in
theorem ReadUint_in (v : Value) (l : List Int) (n : Nat) (w : World) (hv : RdB w v l) (hl : l.length ≤ 140737488355327) (h1 : n ≤ l.length) :
    Calls Try.prog 37 #[v, .int .i64 (n : Int)] w (Out3 .u64 w (finU n (rUint (l.drop n) 0 0))) := by
  obtain ⟨A, c, rfl, hc⟩ := hv.shape
  have ho : outsideL l n = false := by simp [outsideL]; omega
  obtain ⟨R, hR⟩ : ∃ R, R = finU n (rUint (l.drop n) 0 0) := ⟨_, rfl⟩
  rw [← hR]
  have HR := Lib.hid hR.symm
  clear hR
  go_enter Try.func37, Try.ntmps37
  go_wp2_with (refine (outside_ok _ l _ _ hv).mono ?_; rintro e w' ⟨rfl, rfl⟩)
  go_loopw [7, 8] (fun x y wr => ∃ (k : Nat) (acc : Int), x = .int .u64 acc ∧ y = .int .i64 k ∧ k ≤ 9 ∧ Hid (finU n (rUint (l.drop (n + k)) k acc) = R) ∧ wr = w) (fun _ y _ => (10 - intOf y).toNat)
  case atStart => exact ⟨0, 0, rfl, rfl, by omega, HR.out, rfl⟩
  case round =>
    obtain ⟨k, acc, rfl, rfl, hk, hr, rfl⟩ := hrel
    clear HR
    by_cases hlt : n + k < l.length
    · obtain ⟨ad, rfl, hcell⟩ := hv.at_ (n + k) hlt
      have hd := hr.out
      rw [drop_gt l (n + k) hlt] at hd
      generalize gt l (n + k) = x at *
      simp only [rUint] at hd
      by_cases h9 : k = 9 ∧ 1 < x
      · rw [if_pos h9] at hd
        obtain ⟨h9, hx⟩ := h9
        have HD := Lib.hid hd
        clear hd hr
        have hk9 : ((k : Int) == 9) = true := by rw [beq_iff_eq]; omega
        clear h9
        go_wp2
        go_ret3
        exact ⟨by rw [← HD.out]; rfl, rfl⟩
      · rw [if_neg h9] at hd
        by_cases hx : x < 128
        · rw [if_pos hx] at hd
          by_cases h0 : x = 0 ∧ 0 < k
          · rw [if_pos h0] at hd
            obtain ⟨rfl, h0⟩ := h0
            have HD := Lib.hid hd
            clear hd hr h9
            go_wp2
            all_goals
              go_ret3
              exact ⟨by rw [← HD.out]; rfl, rfl⟩
          · rw [if_neg h0] at hd
            have HD := Lib.hid hd
            clear hd hr
            by_cases hx0 : x = 0
            · have hk0 : k ≤ 0 := by omega
              have hk9 : ((k : Int) == 9) = false := by rw [beq_eq_false_iff_ne]; omega
              subst hx0
              clear h9 h0
              go_wp2
              go_ret3
              exact ⟨by rw [← HD.out]; simp [finU, acc7, Int.add_assoc], rfl⟩
            · have hb : ((x : Int) == 0) = false := by simpa using hx0
              by_cases h91 : k = 9
              · have hx1 : x ≤ 1 := by omega
                have hk9 : ((k : Int) == 9) = true := by rw [beq_iff_eq]; omega
                clear h9 h0 hx0 h91
                go_wp2
                go_ret3
                exact ⟨by rw [← HD.out]; simp [finU, acc7, Int.add_assoc], rfl⟩
              · have hk9 : ((k : Int) == 9) = false := by rw [beq_eq_false_iff_ne]; omega
                clear h9 h0 hx0 h91
                go_wp2
                go_ret3
                exact ⟨by rw [← HD.out]; simp [finU, acc7, Int.add_assoc], rfl⟩
        · rw [if_neg hx] at hd
          have hk9 : ((k : Int) == 9) = false := by rw [beq_eq_false_iff_ne]; omega
          have hk8 : k ≤ 8 := by omega
          have HD := Lib.hid hd
          clear hd hr h9
          go_wp2
          go_roundw
          case rel => exact ⟨k + 1, acc7 acc x k, rfl, by go_num, by omega, HD.out, trivial⟩
          case measure => simp [intOf]; omega
    · have hge : l.length ≤ n + k := by omega
      have hd := hr.out
      rw [List.drop_eq_nil_of_le hge] at hd
      have HD := Lib.hid hd
      clear hd hr
      go_wp2
      go_ret3
      exact ⟨by rw [← HD.out]; rfl, rfl⟩
theorem ReadUint_ok (v : Value) (l : List Int) (i : Int) (w : World) (hv : RdB w v l) (hl : l.length ≤ 140737488355327) :
    Calls Try.prog 37 #[v, .int .i64 i] w (Out3 .u64 w (readUintL l i)) := by
  by_cases ho : outsideL l i = true
  · have e : readUintL l i = (0, 0, 1) := by simp [readUintL, ho]
    rw [e]
    obtain ⟨A, c, rfl, hc⟩ := hv.shape
    go_enter Try.func37, Try.ntmps37
    go_wp2_with (refine (outside_ok _ l _ _ hv).mono ?_; rintro e w' ⟨rfl, rfl⟩)
    go_ret3
    exact ⟨rfl, rfl⟩
  · have ho' : outsideL l i = false := by simpa using ho
    have hb : 0 ≤ i ∧ i ≤ l.length := by simp [outsideL] at ho'; omega
    obtain ⟨n, rfl⟩ := Int.eq_ofNat_of_zero_le hb.1
    have e : readUintL l n = finU n (rUint (l.drop n) 0 0) := by simp [readUintL, ho']
    rw [e]
    exact ReadUint_in v l n w hv hl (by omega)

def rOrd : List Int → List Int → Nat → List Int × Int × Int
  | [], _, _ => ([], 0, 10)
  | c :: s, out, p =>
    if c = 0 then
      match s with
      | [] => ([], 0, 10)
      | d :: t => if d = 1 then (out, ((p + 2 : Nat) : Int), 0) else if d = 255 then rOrd t (out ++ [0]) (p + 2) else ([], 0, 11)
    else rOrd s (out ++ [c]) (p + 1)
def readOrderedL (l : List Int) (i : Int) : List Int × Int × Int := if outsideL l i then ([], 0, 1) else rOrd (l.drop i.toNat) [] i.toNat
theorem rOrd_nil (out : List Int) (p : Nat) : rOrd [] out p = ([], 0, 10) := by simp [rOrd]
theorem rOrd_put (c : Int) (s out : List Int) (p : Nat) (h : c ≠ 0) : rOrd (c :: s) out p = rOrd s (out ++ [c]) (p + 1) := by cases s <;> simp [rOrd, h]
theorem rOrd_torn (out : List Int) (p : Nat) : rOrd [0] out p = ([], 0, 10) := by simp [rOrd]
theorem rOrd_end (s out : List Int) (p : Nat) : rOrd (0 :: 1 :: s) out p = (out, ((p + 2 : Nat) : Int), 0) := by simp [rOrd]
theorem rOrd_zero (s out : List Int) (p : Nat) : rOrd (0 :: 255 :: s) out p = rOrd s (out ++ [0]) (p + 2) := by rw [rOrd]; simp
theorem rOrd_bad (d : Int) (s out : List Int) (p : Nat) (h1 : d ≠ 1) (h2 : d ≠ 255) : rOrd (0 :: d :: s) out p = ([], 0, 11) := by simp [rOrd, h1, h2]

set_option maxHeartbeats 800000 in
theorem ReadOrdered_in (v : Value) (l : List Int) (n : Nat) (w : World) (hv : RdB w v l) (hl : l.length ≤ 140737488355327) (h1 : n ≤ l.length) :
    Calls Try.prog 34 #[v, .int .i64 (n : Int)] w (OutB3 w (rOrd (l.drop n) [] n)) := by
  obtain ⟨A, c, rfl, hc⟩ := hv.shape
  have ho : outsideL l n = false := by simp [outsideL]; omega
  obtain ⟨R, hR⟩ : ∃ R, R = rOrd (l.drop n) [] n := ⟨_, rfl⟩
  rw [← hR]
  have HR := Lib.hid hR.symm
  clear hR
  go_enter Try.func34, Try.ntmps34
  go_wp2_with (refine (outside_ok _ l _ _ hv).mono ?_; rintro e w' ⟨rfl, rfl⟩)
  go_loopw [1, 7] (fun x b wr => ∃ (p : Nat) (out : List Int), x = .int .i64 p ∧ p ≤ l.length ∧ out.length ≤ p ∧ Hid (rOrd (l.drop p) out p = R) ∧ OwB wr b out ∧ From w.heap.size b ∧ Ext w wr) (fun x _ _ => (l.length - intOf x).toNat)
  case atStart => exact ⟨n, [], rfl, h1, by simp, HR.out, OwB.nil _, From.nil _ _ _, Ext.refl _⟩
  case round =>
    obtain ⟨p, out, rfl, hp, hout, hr, ho, hf, he⟩ := hrel
    clear HR
    by_cases hlt : p < l.length
    · obtain ⟨ad, rfl, hcell⟩ := (hv.ext he).at_ p hlt
      have hd := hr.out
      rw [drop_gt l p hlt] at hd
      generalize gt l p = x at *
      by_cases hx : x = 0
      · subst hx
        by_cases hlt2 : p + 1 < l.length
        · obtain ⟨ad', e', hcell2⟩ := (hv.ext he).at_ (p + 1) hlt2
          cases e'
          rw [addr_succ] at hcell2
          have hb : ((p : Int) + 1 == (l.length : Int)) = false := by rw [beq_eq_false_iff_ne]; omega
          rw [drop_gt l (p + 1) hlt2] at hd
          generalize gt l (p + 1) = d at *
          by_cases hd1 : d = 1
          · subst hd1
            rw [rOrd_end] at hd
            have HD := Lib.hid hd
            clear hd hr
            go_wp2
            go_ret3
            exact ⟨_, by rw [← HD.out]; simp only [Int.natCast_add]; rfl, by rw [← HD.out]; exact ho, hf, he⟩
          · by_cases hd2 : d = 255
            · subst hd2
              rw [rOrd_zero] at hd
              have HD := Lib.hid hd
              clear hd hr hd1
              go_wp2_with (at_builtin; refine appB rfl _ _ rfl rfl rfl (ho.alloc _) (RdB.lit wr [_]) (by simp; omega) ?_; intro b1 w1 ho1 hg1 hat1; have he1 := ((he.alloc _).grown hg1 hf); have hf1 := From.app hf hat1 (he.alloc _).size)
              go_roundw
              case rel => exact ⟨p + 2, out ++ [0], by go_num, by omega, by simp; omega, HD.out, ho1, hf1, he1⟩
              case measure => simp [intOf]; omega
            · rw [rOrd_bad d _ _ _ hd1 hd2] at hd
              have HD := Lib.hid hd
              have hb1 : ((d : Int) == 1) = false := by simpa using hd1
              have hb2 : ((d : Int) == 255) = false := by simpa using hd2
              clear hd hr hd1 hd2
              go_wp2
              go_ret3
              exact ⟨_, by rw [← HD.out]; rfl, by rw [← HD.out]; exact OwB.nil _, From.nil _ _ _, he⟩
        · have hb : ((p : Int) + 1 == (l.length : Int)) = true := by rw [beq_iff_eq]; omega
          rw [List.drop_eq_nil_of_le (by omega), rOrd_torn] at hd
          have HD := Lib.hid hd
          clear hd hr
          go_wp2
          go_ret3
          exact ⟨_, by rw [← HD.out]; rfl, by rw [← HD.out]; exact OwB.nil _, From.nil _ _ _, he⟩
      · rw [rOrd_put x _ _ _ hx] at hd
        have HD := Lib.hid hd
        have hb1 : ((x : Int) != 0) = true := by simpa using hx
        clear hd hr hx
        go_wp2_with (at_builtin; refine appB rfl _ _ rfl rfl rfl (ho.alloc _) (RdB.lit wr [_]) (by simp; omega) ?_; intro b1 w1 ho1 hg1 hat1; have he1 := ((he.alloc _).grown hg1 hf); have hf1 := From.app hf hat1 (he.alloc _).size)
        go_roundw
        case rel => exact ⟨p + 1, out ++ [x], by go_num, by omega, by simp; omega, HD.out, ho1, hf1, he1⟩
        case measure => simp [intOf]; omega
    · have hd := hr.out
      rw [List.drop_eq_nil_of_le (by omega), rOrd_nil] at hd
      have HD := Lib.hid hd
      clear hd hr
      go_wp2
      go_ret3
      exact ⟨_, by rw [← HD.out]; rfl, by rw [← HD.out]; exact OwB.nil _, From.nil _ _ _, he⟩
theorem ReadOrdered_ok (v : Value) (l : List Int) (i : Int) (w : World) (hv : RdB w v l) (hl : l.length ≤ 140737488355327) :
    Calls Try.prog 34 #[v, .int .i64 i] w (OutB3 w (readOrderedL l i)) := by
  by_cases ho : outsideL l i = true
  · have e : readOrderedL l i = ([], 0, 1) := by simp [readOrderedL, ho]
    rw [e]
    obtain ⟨A, c, rfl, hc⟩ := hv.shape
    go_enter Try.func34, Try.ntmps34
    go_wp2_with (refine (outside_ok _ l _ _ hv).mono ?_; rintro e w' ⟨rfl, rfl⟩)
    go_ret3
    exact ⟨_, rfl, OwB.nil _, From.nil _ _ _, Ext.refl _⟩
  · have ho' : outsideL l i = false := by simpa using ho
    have hb : 0 ≤ i ∧ i ≤ l.length := by simp [outsideL] at ho'; omega
    obtain ⟨n, rfl⟩ := Int.eq_ofNat_of_zero_le hb.1
    have e : readOrderedL l n = rOrd (l.drop n) [] n := by simp [readOrderedL, ho']
    rw [e]
    exact ReadOrdered_in v l n w hv hl (by omega)

/-- A number out of bytes that rise. -/
def shor (a c : Int) : Int := bits .or .i64 (wrap64 (a * 256)) (wrap64 c)
def rRis (s : List Int) (acc : Int) : Int := s.foldl shor acc
def readRisingL (l : List Int) (i : Int) : Int × Int × Int :=
  if outsideL l i then (0, 0, 1) else if (l.length : Int) - i < 8 then (0, 0, 10) else if 127 < gt l i.toNat then (0, 0, 13) else (rRis ((l.take (i.toNat + 8)).drop i.toNat) 0, i + 8, 0)

set_option maxHeartbeats 400000 in
theorem ReadRising_ok (v : Value) (l : List Int) (i : Int) (w : World) (hv : RdB w v l) (hl : l.length ≤ 140737488355327) :
    Calls Try.prog 42 #[v, .int .i64 i] w (Out3 .i64 w (readRisingL l i)) := by
  obtain ⟨R, hR⟩ : ∃ R, R = readRisingL l i := ⟨_, rfl⟩
  rw [← hR]
  unfold readRisingL at hR
  by_cases ho : outsideL l i = true
  · rw [if_pos ho] at hR
    subst hR
    obtain ⟨A, c, rfl, hc⟩ := hv.shape
    go_enter Try.func42, Try.ntmps42
    go_wp2_with (refine (outside_ok _ l _ _ hv).mono ?_; rintro e w' ⟨rfl, rfl⟩)
    go_ret3
    exact ⟨rfl, rfl⟩
  · have ho' : outsideL l i = false := by simpa using ho
    rw [if_neg ho] at hR
    have hb : 0 ≤ i ∧ i ≤ l.length := by simp [outsideL] at ho'; omega
    obtain ⟨n, rfl⟩ := Int.eq_ofNat_of_zero_le hb.1
    have hb0 := hb.1
    have hb1 := hb.2
    clear hb ho
    by_cases h8 : (l.length : Int) - (n : Int) < 8
    · rw [if_pos h8] at hR
      subst hR
      obtain ⟨A, c, rfl, hc⟩ := hv.shape
      go_enter Try.func42, Try.ntmps42
      go_wp2_with (refine (outside_ok _ l _ _ hv).mono ?_; rintro e w' ⟨rfl, rfl⟩)
      go_ret3
      exact ⟨rfl, rfl⟩
    · rw [if_neg h8] at hR
      rw [Int.toNat_natCast] at hR
      obtain ⟨A, c, rfl, hc⟩ := hv.shape
      obtain ⟨ad, rfl, hcell⟩ := hv.at_ n (by omega)
      by_cases hx : 127 < gt l n
      · rw [if_pos hx] at hR
        subst hR
        go_enter Try.func42, Try.ntmps42
        go_wp2_with (refine (outside_ok _ l _ _ hv).mono ?_; rintro e w' ⟨rfl, rfl⟩)
        go_ret3
        exact ⟨rfl, rfl⟩
      · rw [if_neg hx] at hR
        have HR := Lib.hid hR.symm
        clear hR
        obtain ⟨v', hrun, hv'⟩ := run_sliceB w hv (some (.int .i64 n)) (some (.int .i64 ((n : Int) + 8))) n (n + 8) (.inr ⟨.i64, rfl⟩) (.inr ⟨.i64, by simp⟩) (by omega) (by omega) (by omega)
        obtain ⟨A', c', rfl, hc'⟩ := hv'.shape
        obtain ⟨T, hT⟩ : ∃ T, T = (l.take (n + 8)).drop n := ⟨_, rfl⟩
        rw [← hT] at hv' hrun
        have hT8 : T.length = 8 := by rw [hT]; simp; omega
        have HT := Lib.hid hT
        clear hT hc'
        have hT1 : T.length ≤ 8 := by omega
        have hT2 : 8 ≤ T.length := by omega
        clear hT8
        go_enter Try.func42, Try.ntmps42
        go_wp2_with (refine (outside_ok _ l _ _ hv).mono ?_; rintro e w' ⟨rfl, rfl⟩)
        go_loopw [7, 32] (fun x y wr => ∃ k : Nat, y = .int .i64 k ∧ x = .int .i64 (rRis (T.take k) 0) ∧ k ≤ T.length ∧ wr = w) (fun _ y _ => (T.length - intOf y).toNat)
        case atStart => exact ⟨0, rfl, rfl, by omega, rfl⟩
        case round =>
          obtain ⟨k, rfl, rfl, hk, rfl⟩ := hrel
          by_cases hlt : k < T.length
          · obtain ⟨ad', rfl, hcell'⟩ := hv'.at_ k hlt
            have hs : rRis (T.take (k + 1)) 0 = shor (rRis (T.take k) 0) (gt T k) := by rw [take_gt T k hlt]; simp [rRis]
            generalize rRis (T.take k) 0 = y at *
            have HS := Lib.hid hs
            clear hs
            go_wp2
            go_roundw
            case rel => exact ⟨k + 1, by go_num, by rw [HS.out]; rfl, by omega, trivial⟩
            case measure => simp [intOf]; omega
          · have hge : T.length ≤ k := by omega
            have HF : Hid (rRis T 0 = rRis (T.take k) 0) := by rw [List.take_of_length_le hge]; rfl
            generalize rRis (T.take k) 0 = y at *
            go_wp2
            go_ret3
            exact ⟨by rw [← HR.out, ← HT.out, HF.out]; rfl, rfl⟩

def readFallingL (l : List Int) (i : Int) : Int × Int × Int :=
  if (readRisingL l i).2.2 = 0 then (wrap64 (9223372036854775807 - (readRisingL l i).1), (readRisingL l i).2.1, 0) else (0, 0, (readRisingL l i).2.2)
set_option maxHeartbeats 400000 in
theorem ReadFalling_ok (v : Value) (l : List Int) (i : Int) (w : World) (hv : RdB w v l) (hl : l.length ≤ 140737488355327) :
    Calls Try.prog 35 #[v, .int .i64 i] w (Out3 .i64 w (readFallingL l i)) := by
  have h := ReadRising_ok v l i w hv hl
  unfold readFallingL
  generalize readRisingL l i = r at *
  obtain ⟨x, y, z⟩ := r
  have HH := Lib.hid h
  clear h
  by_cases hz : z = 0
  · subst hz
    go_enter Try.func35, Try.ntmps35
    go_wp2_with (refine HH.out.mono ?_; rintro e w' ⟨rfl, rfl⟩)
    go_ret3
    exact ⟨rfl, rfl⟩
  · have hb : ((z : Int) != 0) = true := by simpa using hz
    rw [if_neg hz]
    clear hz
    go_enter Try.func35, Try.ntmps35
    go_wp2_with (refine HH.out.mono ?_; rintro e w' ⟨rfl, rfl⟩)
    go_ret3
    exact ⟨rfl, rfl⟩

end Go.Proofs.Ytckhefkedkipeab

/- Byte strings with a length ahead; Go's bytes.Clone and bytes.Equal. -/
import Derived.Test.YtckhefkedkipeabWire2
namespace Go.Proofs.Ytckhefkedkipeab
open Go.RowKit

set_option maxHeartbeats 400000 in
theorem Clone_ok (v : Value) (l : List Int) (w : World) (hv : RdB w v l) (hl : l.length ≤ 140737488355327) :
    Calls Try.prog 38 #[v] w (OutB w l) := by
  obtain ⟨A, c, rfl, hc⟩ := hv.shape
  have hn := run_nilB w A l.length c
  have hz := OwB.lit w [] (by simp)
  have hf := From.new w.heap.size w.heap.size 0 0 0 (Nat.le_refl _)
  cases A with
  | none =>
    have hl0 : l = [] := by
      cases l with
      | nil => rfl
      | cons a l => obtain ⟨ad, h, _⟩ := hv.at_ 0 (by simp); cases h
    subst hl0
    have hn := run_nilB w none 0 c
    show Calls Try.prog 38 #[.slice none 0 c] w _
    go_enter Try.func38, Try.ntmps38
    go_wp2
    go_ret
    exact ⟨_, rfl, OwB.nil _, From.nil _ _ _, Ext.refl _⟩
  | some ad =>
    go_enter Try.func38, Try.ntmps38
    go_wp2_with (at_builtin; refine appB rfl _ _ rfl rfl rfl hz (hv.alloc _) (by simpa using by omega) ?_; intro b1 w1 ho1 hg1 hat1)
    go_ret
    exact ⟨_, rfl, ho1, From.app hf hat1 (by simp), ((Ext.refl _).alloc _).grown hg1 hf⟩

def readBytesL (l : List Int) (i most : Int) : List Int × Int × Int :=
  if outsideL l i then ([], 0, 1) else if most < 0 then ([], 0, 1) else
  let r := readUintL l i
  if r.2.2 ≠ 0 then ([], 0, r.2.2) else if most < r.1 then ([], 0, 13) else if (l.length : Int) - r.2.1 < r.1 then ([], 0, 10) else
  ((l.take (r.2.1 + r.1).toNat).drop r.2.1.toNat, r.2.1 + r.1, 0)
theorem rUint_ok (s : List Int) : ∀ (k : Nat) (acc : Int), (rUint s k acc).2.2 = 0 → 0 ≤ (rUint s k acc).1 ∧ (rUint s k acc).1 < 18446744073709551616 ∧ (rUint s k acc).2.1 ≤ k + s.length ∧ k < (rUint s k acc).2.1 := by
  induction s with
  | nil => intro k acc h; simp [rUint] at h
  | cons c s ih =>
    intro k acc h
    unfold rUint at h ⊢
    by_cases h1 : k = 9 ∧ 1 < c
    · rw [if_pos h1] at h; simp at h
    · rw [if_neg h1] at h ⊢
      by_cases h2 : c < 128
      · rw [if_pos h2] at h ⊢
        by_cases h3 : c = 0 ∧ 0 < k
        · rw [if_pos h3] at h; simp at h
        · rw [if_neg h3]
          have := or64_range acc (IntKind.u64.wrap (IntKind.u64.wrap (bits .and .u8 c 127) * 2 ^ (7 * k)))
          exact ⟨this.1, this.2, by simp, by simp⟩
      · rw [if_neg h2] at h ⊢
        have := ih _ _ h
        exact ⟨this.1, this.2.1, by simp; omega, by omega⟩
theorem readUint_ok (l : List Int) (i : Int) (h : (readUintL l i).2.2 = 0) : 0 ≤ i ∧ 0 ≤ (readUintL l i).1 ∧ (readUintL l i).1 < 18446744073709551616 ∧ i < (readUintL l i).2.1 ∧ (readUintL l i).2.1 ≤ l.length := by
  unfold readUintL at h ⊢
  by_cases ho : outsideL l i = true
  · rw [if_pos ho] at h; simp at h
  · rw [if_neg ho] at h ⊢
    have ho' : outsideL l i = false := by simpa using ho
    have hb : 0 ≤ i ∧ i ≤ l.length := by simp [outsideL] at ho'; omega
    have h0 : (rUint (l.drop i.toNat) 0 0).2.2 = 0 := h
    have := rUint_ok _ _ _ h0
    simp only [finU, if_pos h0]
    simp only [List.length_drop] at this
    omega
theorem readUint_pos (l : List Int) (i : Int) (h : (readUintL l i).2.2 ≠ 0) : (readUintL l i).2.1 = 0 := by
  unfold readUintL at h ⊢
  split
  · rfl
  · rename_i ho
    rw [if_neg ho] at h
    exact if_neg h

set_option maxHeartbeats 400000 in
set_option maxRecDepth 100000 in
theorem ReadBytes_ok (v : Value) (l : List Int) (i most : Int) (w : World) (hv : RdB w v l) (hl : l.length ≤ 140737488355327) (hm : most ≤ 9223372036854775807) (hm0 : -9223372036854775808 ≤ most) :
    Calls Try.prog 28 #[v, .int .i64 i, .int .i64 most] w (OutB3 w (readBytesL l i most)) := by
  obtain ⟨R, hR⟩ : ∃ R, R = readBytesL l i most := ⟨_, rfl⟩
  rw [← hR]
  unfold readBytesL at hR
  by_cases ho : outsideL l i = true
  · rw [if_pos ho] at hR
    subst hR
    go_enter Try.func28, Try.ntmps28
    go_wp2_with (go_at_call 36; refine (outside_ok _ l _ _ hv).mono ?_; rintro e w' ⟨rfl, rfl⟩)
    go_ret3
    exact ⟨_, rfl, OwB.nil _, From.nil _ _ _, Ext.refl _⟩
  · have ho' : outsideL l i = false := by simpa using ho
    rw [if_neg ho] at hR
    clear ho
    by_cases h0 : most < 0
    · rw [if_pos h0] at hR
      subst hR
      have hd : decide (most < 0) = true := by simpa using h0
      go_enter Try.func28, Try.ntmps28
      go_wp2_with (go_at_call 36; refine (outside_ok _ l _ _ hv).mono ?_; rintro e w' ⟨rfl, rfl⟩)
      go_ret3
      exact ⟨_, rfl, OwB.nil _, From.nil _ _ _, Ext.refl _⟩
    · rw [if_neg h0] at hR
      have hd : decide (most < 0) = false := by simpa using h0
      have hu := ReadUint_ok v l i w hv hl
      have hok := readUint_ok l i
      generalize readUintL l i = r at *
      obtain ⟨x, p, e⟩ := r
      dsimp only at hR hok
      have HU := Lib.hid hu
      clear hu
      obtain ⟨A, c, rfl, hc⟩ := hv.shape
      by_cases he : e = 0
      · have hk := hok he
        subst he
        rw [if_neg (by simp)] at hR
        obtain ⟨hi0, hx0, hx1, hp0, hp1⟩ := hk
        clear hok
        by_cases h1 : most < x
        · rw [if_pos h1] at hR
          subst hR
          go_enter Try.func28, Try.ntmps28
          go_wp2_with (first | (go_at_call 36; refine (outside_ok _ l _ _ hv).mono ?_; rintro e w' ⟨rfl, rfl⟩) | (go_at_call 37; refine HU.out.mono ?_; rintro e w' ⟨rfl, rfl⟩))
          go_ret3
          exact ⟨_, rfl, OwB.nil _, From.nil _ _ _, Ext.refl _⟩
        · rw [if_neg h1] at hR
          by_cases h2 : (l.length : Int) - p < x
          · rw [if_pos h2] at hR
            subst hR
            go_enter Try.func28, Try.ntmps28
            go_wp2_with (first | (go_at_call 36; refine (outside_ok _ l _ _ hv).mono ?_; rintro e w' ⟨rfl, rfl⟩) | (go_at_call 37; refine HU.out.mono ?_; rintro e w' ⟨rfl, rfl⟩))
            go_ret3
            exact ⟨_, rfl, OwB.nil _, From.nil _ _ _, Ext.refl _⟩
          · rw [if_neg h2] at hR
            obtain ⟨a, rfl⟩ := Int.eq_ofNat_of_zero_le (show 0 ≤ p by omega)
            obtain ⟨b, rfl⟩ := Int.eq_ofNat_of_zero_le hx0
            have e1 : ((a : Int) + (b : Int)).toNat = a + b := by omega
            rw [Int.toNat_natCast, e1] at hR
            obtain ⟨v', hrun, hv'⟩ := run_sliceB w hv (some (.int .i64 a)) (some (.int .i64 ((a : Int) + b))) a (a + b) (.inr ⟨.i64, rfl⟩) (.inr ⟨.i64, by simp⟩) (by omega) (by omega) (by omega)
            have hlen : ((l.take (a + b)).drop a).length ≤ 140737488355327 := by simp; omega
            subst hR
            have HL := Lib.hid hlen
            have HV := Lib.hid hv'
            have HO := Lib.hid (outside_ok _ l i _ hv)
            have hab : a + b ≤ l.length := by omega
            clear hlen hv' e1 hv hx1
            go_enter Try.func28, Try.ntmps28
            go_wp2_with (first | (go_at_call 36; refine HO.out.mono ?_; rintro e w' ⟨rfl, rfl⟩) | (go_at_call 37; refine HU.out.mono ?_; rintro e w' ⟨rfl, rfl⟩) | (go_at_call 38; refine (Clone_ok _ _ _ HV.out HL.out).mono ?_; rintro e w' ⟨r, rfl, ho1, hf1, he1⟩))
            go_ret3
            exact ⟨_, rfl, ho1, hf1, he1⟩
      · rw [if_pos he] at hR
        subst hR
        have hb : ((e : Int) != 0) = true := by simpa using he
        clear he hok
        go_enter Try.func28, Try.ntmps28
        go_wp2_with (first | (go_at_call 36; refine (outside_ok _ l _ _ hv).mono ?_; rintro e w' ⟨rfl, rfl⟩) | (go_at_call 37; refine HU.out.mono ?_; rintro e w' ⟨rfl, rfl⟩))
        go_ret3
        exact ⟨_, rfl, OwB.nil _, From.nil _ _ _, Ext.refl _⟩

/-- The same bytes, as strings. -/
def eqS (l m : List Int) : Bool := (strOfNums l).toList == (strOfNums m).toList
set_option maxHeartbeats 400000 in
theorem Equal_ok (v u : Value) (l m : List Int) (w : World) (hv : RdB w v l) (hu : RdB w u m) :
    Calls Try.prog 27 #[v, u] w fun e w' => e = .returned (.bool (eqS l m)) ∧ w = w' := by
  have h1 := run_strB w hv
  have h2 := run_strB w hu
  unfold eqS
  generalize strOfNums l = s at *
  generalize strOfNums m = t at *
  go_enter Try.func27, Try.ntmps27
  go_wp2

  go_ret
  exact ⟨rfl, rfl⟩
end Go.Proofs.Ytckhefkedkipeab

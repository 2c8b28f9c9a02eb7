/- Byte strings with a length ahead; Go's bytes.Clone and bytes.Equal. -/
import Derived.Test.YtckhefkedkipeaaWire2
namespace Go.Proofs.Ytckhefkedkipeaa
open Go.RowKit

def readBytesL (l : List Int) (i most : Int) : List Int × Int × Int :=
  if outsideL l i then ([], 0, 1) else if most < 0 then ([], 0, 1) else
  let r := readUintL l i
  if r.2.2 ≠ 0 then ([], 0, r.2.2) else if most < r.1 then ([], 0, 13) else if (l.length : Int) - r.2.1 < r.1 then ([], 0, 10) else
  ((l.take (r.2.1 + r.1).toNat).drop r.2.1.toNat, r.2.1 + r.1, 0)
theorem rUint_ok (s : List Int) : ∀ (k : Nat) (acc : Int), (rUint s k acc).2.2 = 0 → 0 ≤ (rUint s k acc).1 ∧ (rUint s k acc).1 < 18446744073709551616 ∧ (rUint s k acc).2.1 ≤ k + s.length ∧ k < (rUint s k acc).2.1 := by
  induction s with
  | nil => intro k acc h; simp [rUint] at h
  | cons c s ih =>
    intro k acc h
    unfold rUint at h ⊢
    by_cases h1 : k = 9 ∧ 1 < c
    · rw [if_pos h1] at h; simp at h
    · rw [if_neg h1] at h ⊢
      by_cases h2 : c < 128
      · rw [if_pos h2] at h ⊢
        by_cases h3 : c = 0 ∧ 0 < k
        · rw [if_pos h3] at h; simp at h
        · rw [if_neg h3]
          have := or64_range acc (IntKind.u64.wrap (IntKind.u64.wrap (bits .and .u8 c 127) * 2 ^ (7 * k)))
          exact ⟨this.1, this.2, by simp, by simp⟩
      · rw [if_neg h2] at h ⊢
        have := ih _ _ h
        exact ⟨this.1, this.2.1, by simp; omega, by omega⟩
theorem readUint_ok (l : List Int) (i : Int) (h : (readUintL l i).2.2 = 0) : 0 ≤ i ∧ 0 ≤ (readUintL l i).1 ∧ (readUintL l i).1 < 18446744073709551616 ∧ i < (readUintL l i).2.1 ∧ (readUintL l i).2.1 ≤ l.length := by
  unfold readUintL at h ⊢
  by_cases ho : outsideL l i = true
  · rw [if_pos ho] at h; simp at h
  · rw [if_neg ho] at h ⊢
    have ho' : outsideL l i = false := by simpa using ho
    have hb : 0 ≤ i ∧ i ≤ l.length := by simp [outsideL] at ho'; omega
    have h0 : (rUint (l.drop i.toNat) 0 0).2.2 = 0 := h
    have := rUint_ok _ _ _ h0
    simp only [finU, if_pos h0]
    simp only [List.length_drop] at this
    omega
theorem readUint_pos (l : List Int) (i : Int) (h : (readUintL l i).2.2 ≠ 0) : (readUintL l i).2.1 = 0 := by
  unfold readUintL at h ⊢
  split
  · rfl
  · rename_i ho
    rw [if_neg ho] at h
    exact if_neg h

/-- The same bytes, as strings. -/
def eqS (l m : List Int) : Bool := (strOfNums l).toList == (strOfNums m).toList
end Go.Proofs.Ytckhefkedkipeaa

/- What CellLent's rounds hand out: the lists. -/
import Derived.Test.YtckhefkedkipeabTold
namespace Go.Proofs.Ytckhefkedkipeab
open Go.RowKit

def Small (l : List Int) : Prop := l.length ≤ 10000
theorem key_small (e : Ent) : Small (keyL e).1 := by
  unfold keyL Small
  split
  · rename_i h; have := keyBody_len e h; simp only; omega
  · simp
theorem pack_small (e : Ent) : Small (packL e).1 := by
  unfold packL Small
  split
  · rename_i h
    have h1 := keyBody_len e h
    have h2 := bytesL_len (keyBody e)
    have h3 := bytesL_len e.value
    have h4 := (check_ok e h).2.2.2.1
    simp only [List.length_append]; omega
  · simp
theorem start_small (l : List Int) : Small (startL l).1 := by
  unfold startL Small
  split
  · simp
  · rename_i h
    have h1 := out_len l (by simpa using h)
    have h2 := orderedL_len l
    simp only; omega
theorem behind_small (l : List Int) : Small (behindL l).1 := by
  unfold behindL Small
  split
  · simp
  · rename_i h
    have h1 := out_len l (by simpa using h)
    have h2 := orderedL_len l
    simp only [List.length_append, List.length_cons, List.length_nil]; omega
def SmallE (e : Ent) : Prop := Small e.row ∧ Small e.qual ∧ Small e.value
theorem zero_small : SmallE Ent.zero := by simp [SmallE, Small, Ent.zero]
theorem key_check (e : Ent) (h : (keyL e).2 = 0) : checkL e = 0 := by
  unfold keyL at h
  by_cases hc : checkL e = 0
  · exact hc
  · rw [if_neg hc] at h; exact h
theorem parseKey_small (l : List Int) : SmallE (parseKeyL l).1 := by
  unfold parseKeyL
  split
  · exact zero_small
  · rename_i e h
    split
    · rename_i h2
      obtain ⟨h3, _, h4, h5, _⟩ := check_ok e (key_check e h2.1)
      simp only [SmallE, Small]; omega
    · exact zero_small
theorem readBytes_most (l : List Int) (i : Int) (most : Int) (h0 : 0 ≤ most) : (readBytesL l i most).1.length ≤ most.toNat := by
  unfold readBytesL
  dsimp only
  repeat' split
  all_goals simp
  omega
theorem unpack_small (l : List Int) (i : Int) : SmallE (unpackL l i).1 := by
  unfold unpackL
  dsimp only
  split
  · exact zero_small
  · split
    · exact zero_small
    · split
      · exact zero_small
      · split
        · exact zero_small
        · have h1 := parseKey_small (readBytesL l i 1048).1
          have h2 := readBytes_most l (readBytesL l i 1048).2.1 4096 (by omega)
          refine ⟨h1.1, h1.2.1, ?_⟩
          simp only [withValue, Small]
          have : ((4096 : Int)).toNat = 4096 := rfl
          omega
/-- What is kept of an entry's round. -/
def entL (e : Ent) : List (List Int) := [e.row, e.qual, e.value]
def rndL (e : Ent) : List (List Int) :=
  [(keyL e).1, (packL e).1, (startL e.row).1, (behindL e.row).1] ++ (entL (parseKeyL (keyL e).1).1 ++ entL (unpackL (packL e).1 0).1)
theorem rndL_len (e : Ent) : (rndL e).length = 10 := rfl
def allL (a b : Ent) (any : List Int) (at_ : Int) : List (List Int) := rndL a ++ rndL b ++ (entL (parseKeyL any).1 ++ entL (unpackL any at_).1)
theorem allL_len (a b : Ent) (any : List Int) (at_ : Int) : (allL a b any at_).length = 26 := rfl
end Go.Proofs.Ytckhefkedkipeab

/- Package cell: parse, which reads a key. -/
import Derived.Test.YtckhefkedkipeaaPack
namespace Go.Proofs.Ytckhefkedkipeaa
open Go.RowKit
theorem rOrd_ok : ∀ (n : Nat) (s : List Int) (out : List Int) (p : Nat), s.length ≤ n → (rOrd s out p).2.2 = 0 → (p : Int) < (rOrd s out p).2.1 ∧ (rOrd s out p).2.1 ≤ p + s.length ∧ (rOrd s out p).1.length ≤ out.length + s.length := by
  intro n
  induction n with
  | zero => intro s out p hs h; have : s = [] := List.eq_nil_of_length_eq_zero (by omega); subst this; simp [rOrd] at h
  | succ n ih =>
    intro s out p hs h
    cases s with
    | nil => simp [rOrd] at h
    | cons c s =>
      by_cases hc : c = 0
      · subst hc
        cases s with
        | nil => simp [rOrd] at h
        | cons d s =>
          by_cases h1 : d = 1
          · subst h1
            rw [rOrd_end] at h ⊢
            simp; omega
          · by_cases h2 : d = 255
            · subst h2
              rw [rOrd_zero] at h ⊢
              have := ih s _ _ (by simp at hs; omega) h
              simp at this ⊢; omega
            · rw [rOrd_bad d s out p h1 h2] at h; simp at h
      · rw [rOrd_put c s out p hc] at h ⊢
        have := ih s _ _ (by simp at hs; omega) h
        simp at this ⊢; omega
theorem rOrd_bad_nil : ∀ (n : Nat) (s : List Int) (out : List Int) (p : Nat), s.length ≤ n → (rOrd s out p).2.2 ≠ 0 → (rOrd s out p).1 = [] := by
  intro n
  induction n with
  | zero => intro s out p hs h; have : s = [] := List.eq_nil_of_length_eq_zero (by omega); subst this; simp [rOrd]
  | succ n ih =>
    intro s out p hs h
    cases s with
    | nil => simp [rOrd]
    | cons c s =>
      by_cases hc : c = 0
      · subst hc
        cases s with
        | nil => simp [rOrd]
        | cons d s =>
          by_cases h1 : d = 1
          · subst h1; rw [rOrd_end] at h; simp at h
          · by_cases h2 : d = 255
            · subst h2
              rw [rOrd_zero] at h ⊢
              exact ih s _ _ (by simp at hs; omega) h
            · rw [rOrd_bad d s out p h1 h2]
      · rw [rOrd_put c s out p hc] at h ⊢
        exact ih s _ _ (by simp at hs; omega) h
theorem readOrdered_ok (l : List Int) (i : Int) (h : (readOrderedL l i).2.2 = 0) : 0 ≤ i ∧ i < (readOrderedL l i).2.1 ∧ (readOrderedL l i).2.1 ≤ l.length := by
  unfold readOrderedL at h ⊢
  by_cases ho : outsideL l i = true
  · rw [if_pos ho] at h; simp at h
  · rw [if_neg ho] at h ⊢
    have ho' : outsideL l i = false := by simpa using ho
    have hb : 0 ≤ i ∧ i ≤ l.length := by simp [outsideL] at ho'; omega
    have := rOrd_ok _ _ _ _ (Nat.le_refl _) h
    simp only [List.length_drop] at this
    omega
theorem readFalling_ok (l : List Int) (i : Int) (h : (readFallingL l i).2.2 = 0) : 0 ≤ i ∧ i + 8 ≤ (readFallingL l i).2.1 ∧ (readFallingL l i).2.1 ≤ l.length := by
  have hr : (readRisingL l i).2.2 = 0 := by
    unfold readFallingL at h
    by_cases h0 : (readRisingL l i).2.2 = 0
    · exact h0
    · rw [if_neg h0] at h; exact absurd h h0
  have e : (readFallingL l i).2.1 = (readRisingL l i).2.1 := by unfold readFallingL; rw [if_pos hr]
  rw [e]
  unfold readRisingL at hr ⊢
  by_cases ho : outsideL l i = true
  · rw [if_pos ho] at hr; simp at hr
  · rw [if_neg ho] at hr ⊢
    have ho' : outsideL l i = false := by simpa using ho
    have hb : 0 ≤ i ∧ i ≤ l.length := by simp [outsideL] at ho'; omega
    by_cases h8 : (l.length : Int) - i < 8
    · rw [if_pos h8] at hr; simp at hr
    · rw [if_neg h8] at hr ⊢
      by_cases h1 : 127 < gt l i.toNat
      · rw [if_pos h1] at hr; simp at hr
      · rw [if_neg h1]; exact ⟨hb.1, Int.le_refl _, by dsimp only; omega⟩

def parseTail (l row : List Int) (fam : Int) (qual : List Int) (i : Int) : Option Ent :=
  if (readFallingL l i).2.2 ≠ 0 then none else
  if (readFallingL l (readFallingL l i).2.1).2.2 ≠ 0 ∨ (l.length : Int) ≤ (readFallingL l (readFallingL l i).2.1).2.1 then none else
  some ⟨row, fam, qual, (readFallingL l i).1, (readFallingL l (readFallingL l i).2.1).1, wrap64 (gt l (readFallingL l (readFallingL l i).2.1).2.1.toNat), []⟩
/-- A key's fields; none: they are not there. -/
def parseL (l : List Int) : Option Ent :=
  let r := readOrderedL l 0
  if r.2.2 ≠ 0 ∨ (l.length : Int) < r.2.1 + 2 then none else
  let fam := wrap64 (gt l r.2.1.toNat)
  if gt l (r.2.1.toNat + 1) = 0 then parseTail l r.1 fam [] (r.2.1 + 2) else
  let q := readOrderedL l (r.2.1 + 2)
  if q.2.2 ≠ 0 ∨ (l.length : Int) ≤ q.2.1 then none else parseTail l r.1 fam q.1 (q.2.1 + 1)

/-- A slice. -/
def isSl (v : Value) : Prop := ∃ A n c, v = .slice A n c
def OutP (w : World) (o : Option Ent) (e : Ending) (w' : World) : Prop :=
  match o with
  | some en => ∃ r q x, e = .returned (.tuple #[.agg (entCells r q x en), .bool true]) ∧ OwE w' r q x en ∧ FromE w.heap.size r q x ∧ Ext w w'
  | none => ∃ r q x en, e = .returned (.tuple #[.agg (entCells r q x en), .bool false]) ∧ isSl r ∧ isSl q ∧ isSl x ∧ Ext w w'
def zeroV : Array Value := #[.slice none 0 0, .int .i64 0, .slice none 0 0, .int .i64 0, .int .i64 0, .int .i64 0, .slice none 0 0]

end Go.Proofs.Ytckhefkedkipeaa

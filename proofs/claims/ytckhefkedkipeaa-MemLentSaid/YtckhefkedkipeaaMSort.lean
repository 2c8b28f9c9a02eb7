/- The tree against the list: putting an entry in, and what lies from an entry on. Plain facts, no program. -/
import Derived.Test.YtckhefkedkipeaaMWith
namespace Go.Proofs.Ytckhefkedkipeaa
open Go.RowKit

/-- The list with x put in; whether it was. -/
def addL (x : Ent) : List Ent → List Ent × Bool
  | [] => ([x], true)
  | y :: l => if compareL y x < 0 then (y :: (addL x l).1, (addL x l).2) else if compareL y x = 0 then (y :: l, false) else (x :: y :: l, true)
def Srt (l : List Ent) : Prop := l.Pairwise fun a b => compareL a b < 0
theorem addL_lo (x e : Ent) (r : List Ent) (h : compareL x e < 0) : ∀ l, addL x (l ++ e :: r) = ((addL x l).1 ++ e :: r, (addL x l).2)
  | [] => by
    have h1 := compareL_is.anti x e
    simp only [List.nil_append, addL]
    rw [if_neg (by omega), if_neg (by omega)]
    rfl
  | y :: l => by
    have ih := addL_lo x e r h l
    simp only [List.cons_append, addL]
    (repeat' split) <;> simp [ih]
theorem addL_hi (x e : Ent) (r : List Ent) (h : compareL e x < 0) : ∀ l, (∀ y ∈ l, compareL y x < 0) → addL x (l ++ e :: r) = (l ++ e :: (addL x r).1, (addL x r).2)
  | [], _ => by simp only [List.nil_append, addL, if_pos h]
  | y :: l, hl => by
    have ih := addL_hi x e r h l fun z hz => hl z (by simp [hz])
    simp only [List.cons_append, addL, if_pos (hl y (by simp)), ih]
theorem addL_eq (x e : Ent) (r : List Ent) (h : compareL e x = 0) : ∀ l, (∀ y ∈ l, compareL y x < 0) → addL x (l ++ e :: r) = (l ++ e :: r, false)
  | [], _ => by simp [addL, h]
  | y :: l, hl => by
    have ih := addL_eq x e r h l fun z hz => hl z (by simp [hz])
    simp only [List.cons_append, addL, if_pos (hl y (by simp)), ih]
theorem addL_false (x : Ent) : ∀ l, (addL x l).2 = false → (addL x l).1 = l
  | [], h => by simp [addL] at h
  | y :: l, h => by
    have ih := addL_false x l
    simp only [addL] at h ⊢
    split at h <;> rename_i h1
    · rw [if_pos h1]; simp only at h ⊢; rw [ih h]
    · rw [if_neg h1]
      split at h <;> rename_i h2
      · rw [if_pos h2]
      · simp at h
theorem Srt.parts {l r : List Ent} {e : Ent} (h : Srt (l ++ e :: r)) : Srt l ∧ Srt r ∧ (∀ y ∈ l, compareL y e < 0) := by
  unfold Srt at h
  rw [List.pairwise_append, List.pairwise_cons] at h
  exact ⟨h.1, h.2.1.2, fun y hy => h.2.2 y hy e (by simp)⟩
theorem withT_list (x : Ent) : ∀ t : Tr, Srt t.list → (withT x t).2 = (addL x t.list).2 ∧ (withT x t).1.list = (addL x t.list).1
  | .leaf, _ => ⟨rfl, rfl⟩
  | .node e l r, hs => by
    obtain ⟨hl, hr, hle⟩ := Srt.parts (show Srt (l.list ++ e :: r.list) from hs)
    obtain ⟨il1, il2⟩ := withT_list x l hl
    obtain ⟨ir1, ir2⟩ := withT_list x r hr
    have an := compareL_is.anti x e
    simp only [Tr.list]
    by_cases h1 : compareL x e < 0
    · rw [addL_lo x e r.list h1]
      simp only [withT, if_pos h1]
      by_cases h2 : (withT x l).2 = true
      · rw [if_pos h2]
        refine ⟨by rw [← il1, h2], ?_⟩
        rw [evenT_list, il2]
      · rw [if_neg h2]
        have h3 : (addL x l.list).2 = false := by rw [← il1]; simpa using h2
        exact ⟨h3.symm, by simp only [Tr.list]; rw [addL_false x _ h3]⟩
    · by_cases h4 : 0 < compareL x e
      · have hlx : ∀ y ∈ l.list, compareL y x < 0 := fun y hy => compareL_is.lt_le (hle y hy) (by omega)
        rw [addL_hi x e r.list (by omega) l.list hlx]
        simp only [withT, if_neg h1, if_pos h4]
        by_cases h2 : (withT x r).2 = true
        · rw [if_pos h2]
          refine ⟨by rw [← ir1, h2], ?_⟩
          rw [evenT_list, ir2]
        · rw [if_neg h2]
          have h3 : (addL x r.list).2 = false := by rw [← ir1]; simpa using h2
          exact ⟨h3.symm, by simp only [Tr.list]; rw [addL_false x _ h3]⟩
      · have h0 : compareL e x = 0 := by omega
        have hlx : ∀ y ∈ l.list, compareL y x < 0 := fun y hy => compareL_is.lt_le (hle y hy) (by omega)
        rw [addL_eq x e r.list h0 l.list hlx]
        simp only [withT, if_neg h1, if_neg h4]
        exact ⟨trivial, rfl⟩
theorem addL_mem (x : Ent) : ∀ l, ∀ y ∈ (addL x l).1, y = x ∨ y ∈ l
  | [], y, h => by simp [addL] at h; exact .inl h
  | z :: l, y, h => by
    simp only [addL] at h
    split at h
    · simp only [List.mem_cons] at h
      rcases h with rfl | h
      · simp
      · rcases addL_mem x l y h with rfl | h <;> simp [*]
    · split at h
      · exact .inr h
      · simp only [List.mem_cons] at h; simpa using h
theorem addL_srt (x : Ent) : ∀ l, Srt l → Srt (addL x l).1
  | [], _ => by simp [addL, Srt]
  | y :: l, h => by
    have h' := h
    unfold Srt at h
    rw [List.pairwise_cons] at h
    simp only [addL]
    split
    · rename_i h1
      refine List.pairwise_cons.2 ⟨fun z hz => ?_, addL_srt x l h.2⟩
      rcases addL_mem x l z hz with rfl | hz
      · exact h1
      · exact h.1 z hz
    · split
      · exact h'
      · rename_i h1 h2
        have h3 : compareL x y < 0 := by rw [compareL_is.anti y x]; omega
        refine List.pairwise_cons.2 ⟨fun z hz => ?_, h'⟩
        rcases List.mem_cons.1 hz with rfl | hz
        · exact h3
        · exact compareL_is.lt_le h3 (by have := h.1 z hz; omega)
theorem addL_len (x : Ent) : ∀ l, (addL x l).1.length ≤ l.length + 1
  | [] => by simp [addL]
  | y :: l => by
    have := addL_len x l
    simp only [addL]
    (repeat' split) <;> simp <;> omega
/-- What each goes through, where what p says so of is left out. -/
def listT (p : Ent → Bool) : Tr → List Ent
  | .leaf => []
  | .node e l r => if p e = true then listT p r else listT p l ++ e :: listT p r
/-- From an entry on. -/
def fromL (x : Ent) (l : List Ent) : List Ent := l.dropWhile fun y => decide (compareL y x < 0)
theorem fromL_lt (x : Ent) : ∀ (l : List Ent) (m : List Ent), (∀ y ∈ l, compareL y x < 0) → fromL x (l ++ m) = fromL x m
  | [], _, _ => rfl
  | y :: l, m, h => by
    have := fromL_lt x l m fun z hz => h z (by simp [hz])
    unfold fromL at this ⊢
    rw [List.cons_append, List.dropWhile_cons, if_pos (by simpa using h y (by simp)), this]
theorem fromL_ge (x e : Ent) (r : List Ent) (h : ¬ compareL e x < 0) : ∀ l, fromL x (l ++ e :: r) = fromL x l ++ e :: r
  | [] => by unfold fromL; rw [List.nil_append, List.dropWhile_cons, if_neg (by simpa using h)]; rfl
  | y :: l => by
    have := fromL_ge x e r h l
    unfold fromL at this ⊢
    rw [List.cons_append, List.dropWhile_cons, List.dropWhile_cons]
    split
    · exact this
    · rfl
theorem fromL_all (x : Ent) (l : List Ent) (h : ∀ y ∈ l, ¬ compareL y x < 0) : fromL x l = l := by
  cases l with
  | nil => rfl
  | cons y l => unfold fromL; rw [List.dropWhile_cons, if_neg (by simpa using h y (by simp))]
theorem listT_from (x : Ent) : ∀ t : Tr, Srt t.list → listT (fun y => decide (compareL y x < 0)) t = fromL x t.list
  | .leaf, _ => rfl
  | .node e l r, hs => by
    obtain ⟨hl, hr, hle⟩ := Srt.parts (show Srt (l.list ++ e :: r.list) from hs)
    have her : ∀ y ∈ r.list, compareL e y < 0 := by
      unfold Srt at hs
      rw [show (Tr.node e l r).list = l.list ++ e :: r.list from rfl, List.pairwise_append, List.pairwise_cons] at hs
      exact hs.2.1.1
    have il := listT_from x l hl
    have ir := listT_from x r hr
    simp only [Tr.list, listT, decide_eq_true_eq]
    by_cases h : compareL e x < 0
    · rw [if_pos h, ir, show l.list ++ e :: r.list = (l.list ++ [e]) ++ r.list by simp]
      exact (fromL_lt x _ _ fun y hy => by
        rcases List.mem_append.1 hy with hy | hy
        · exact compareL_is.lt_le (hle y hy) (by omega)
        · simp at hy; subst hy; exact h).symm
    · rw [if_neg h, il, ir, fromL_ge x e r.list h, fromL_all x r.list fun y hy hc => ?_]
      have h1 := compareL_is.anti e x
      have h2 := compareL_is.lt_le (her y hy) (show compareL y x ≤ 0 by omega)
      omega
theorem listT_all : ∀ t : Tr, listT (fun _ => false) t = t.list
  | .leaf => rfl
  | .node e l r => by simp [listT, Tr.list, listT_all l, listT_all r]
end Go.Proofs.Ytckhefkedkipeaa

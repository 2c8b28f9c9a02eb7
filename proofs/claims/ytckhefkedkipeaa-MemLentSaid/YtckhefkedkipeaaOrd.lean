/- The order of entries: what every comparison of the kind obeys. Plain facts, no program. -/
import Derived.Test.YtckhefkedkipeaaTold
namespace Go.Proofs.Ytckhefkedkipeaa
open Go.RowKit

/-- A comparison that orders: turned about it changes its sign; what is below what is not above is below. -/
structure IsCmp {α : Type} (c : α → α → Int) : Prop where
  anti : ∀ a b, c b a = - c a b
  ll : ∀ a b d, c a b ≤ 0 → c b d ≤ 0 → c a d ≤ 0
  zz : ∀ a b d, c a b ≤ 0 → c b d ≤ 0 → c a d = 0 → c a b = 0 ∧ c b d = 0
theorem IsCmp.comap {α β : Type} {c : α → α → Int} (h : IsCmp c) (f : β → α) : IsCmp (fun a b => c (f a) (f b)) :=
  ⟨fun _ _ => h.anti _ _, fun _ _ _ => h.ll _ _ _, fun _ _ _ => h.zz _ _ _⟩
theorem IsCmp.flip {α : Type} {c : α → α → Int} (h : IsCmp c) : IsCmp (fun a b => c b a) :=
  ⟨fun _ _ => h.anti _ _, fun a b d h1 h2 => h.ll d b a h2 h1, fun a b d h1 h2 h3 => (h.zz d b a h2 h1 h3).symm⟩
theorem IsCmp.zl {α : Type} {c : α → α → Int} (h : IsCmp c) {a b : α} (h0 : c a b = 0) : c b a = 0 := by rw [h.anti, h0]; rfl
theorem IsCmp.tr0 {α : Type} {c : α → α → Int} (h : IsCmp c) {a b d : α} (h1 : c a b = 0) (h2 : c b d = 0) : c a d = 0 := by
  have h3 := h.ll a b d (by omega) (by omega)
  have h4 := h.ll d b a (by rw [h.zl h2]; omega) (by rw [h.zl h1]; omega)
  have h5 := h.anti a d
  omega
theorem IsCmp.lt_le {α : Type} {c : α → α → Int} (h : IsCmp c) {a b d : α} (h1 : c a b < 0) (h2 : c b d ≤ 0) : c a d < 0 := by
  have h3 := h.ll a b d (by omega) h2
  have h4 : c a d ≠ 0 := fun e => by have := (h.zz a b d (by omega) h2 e).1; omega
  omega
theorem IsCmp.le_lt {α : Type} {c : α → α → Int} (h : IsCmp c) {a b d : α} (h1 : c a b ≤ 0) (h2 : c b d < 0) : c a d < 0 := by
  have h3 := h.ll a b d h1 (by omega)
  have h4 : c a d ≠ 0 := fun e => by have := (h.zz a b d h1 (by omega) e).2; omega
  omega
/-- One comparison behind another. -/
theorem IsCmp.lex {α : Type} {c k : α → α → Int} (h : IsCmp c) (g : IsCmp k) : IsCmp (fun a b => if c a b ≠ 0 then c a b else k a b) := by
  refine ⟨fun a b => ?_, fun a b d => ?_, fun a b d => ?_⟩
  · by_cases h0 : c a b = 0
    · have h1 := h.zl h0
      simp only [h0, h1, ne_eq, not_true_eq_false, if_false]
      exact g.anti a b
    · have h1 : c b a ≠ 0 := fun e => h0 (h.zl e)
      simp only [ne_eq, h0, h1, not_false_eq_true, if_true]
      exact h.anti a b
  all_goals
    by_cases h1 : c a b = 0 <;> by_cases h2 : c b d = 0
    · have h3 := h.tr0 h1 h2
      simp only [h1, h2, h3, ne_eq, not_true_eq_false, if_false]
      first | exact g.ll a b d | exact g.zz a b d
    · intro e1 e2
      simp only [ne_eq, h1, h2, not_true_eq_false, not_false_eq_true, if_false, if_true] at e1 e2
      have h3 := h.le_lt (a := a) (b := b) (d := d) (by omega) (by omega)
      have h4 : c a d ≠ 0 := by omega
      simp only [ne_eq, h4, not_false_eq_true, if_true]
      first | omega | (intro e; exact e.elim) | (intro e; exact absurd e h4)
    · intro e1 e2
      simp only [ne_eq, h1, h2, not_true_eq_false, not_false_eq_true, if_false, if_true] at e1 e2
      have h3 := h.lt_le (a := a) (b := b) (d := d) (by omega) (by omega)
      have h4 : c a d ≠ 0 := by omega
      simp only [ne_eq, h4, not_false_eq_true, if_true]
      first | omega | (intro e; exact e.elim) | (intro e; exact absurd e h4)
    · intro e1 e2
      simp only [ne_eq, h1, h2, not_false_eq_true, if_true] at e1 e2
      have h3 := h.le_lt (a := a) (b := b) (d := d) (by omega) (by omega)
      have h4 : c a d ≠ 0 := by omega
      simp only [ne_eq, h4, not_false_eq_true, if_true]
      first | omega | (intro e; exact e.elim) | (intro e; exact absurd e h4)
theorem cmpN_is : IsCmp cmpN := by
  refine ⟨fun a b => ?_, fun a b d => ?_, fun a b d => ?_⟩ <;> unfold cmpN <;> (repeat' split) <;> first | omega | (intros; omega)
theorem firstN_is (k : Int) : IsCmp (firstN k) := by
  have h : IsCmp (fun a b : Ent => cmpN (if (a.kind == k) = true then 0 else 1) (if (b.kind == k) = true then 0 else 1)) := cmpN_is.comap _
  have e : (fun a b : Ent => cmpN (if (a.kind == k) = true then 0 else 1) (if (b.kind == k) = true then 0 else 1)) = firstN k := by
    funext a b
    unfold firstN cmpN
    cases a.kind == k <;> cases b.kind == k <;> rfl
  rw [← e]; exact h
theorem compareBytes_is : IsCmp Lib.compareBytes := by
  refine ⟨fun a => ?_, fun a => ?_, fun a => ?_⟩
  · induction a with
    | nil => intro b; cases b <;> rfl
    | cons x xs ih =>
      intro b
      cases b with
      | nil => rfl
      | cons y ys =>
        simp only [Lib.compareBytes]
        have := UInt8.lt_asymm (a := x) (b := y)
        by_cases h1 : x < y
        · simp [h1, this h1]
        · by_cases h2 : y < x
          · simp [h1, h2]
          · simp only [h1, h2, if_false]; exact ih ys
  · induction a with
    | nil => intro b d; cases b <;> cases d <;> simp [Lib.compareBytes]
    | cons x xs ih =>
      intro b d
      cases b with
      | nil => simp [Lib.compareBytes]
      | cons y ys =>
        cases d with
        | nil => simp [Lib.compareBytes]
        | cons z zs =>
          have ih' := ih ys zs
          simp only [Lib.compareBytes, UInt8.lt_iff_toNat_lt]
          (repeat' split) <;> first | omega | (intros; omega) | exact ih'
  · induction a with
    | nil => intro b d; cases b <;> cases d <;> simp [Lib.compareBytes]
    | cons x xs ih =>
      intro b d
      cases b with
      | nil => simp [Lib.compareBytes]
      | cons y ys =>
        cases d with
        | nil => simp [Lib.compareBytes]
        | cons z zs =>
          have ih' := ih ys zs
          simp only [Lib.compareBytes, UInt8.lt_iff_toNat_lt]
          (repeat' split) <;> first | omega | (intros; omega) | exact ih'
theorem cmpS_is : IsCmp cmpS := compareBytes_is.comap _
theorem stepL_is (k : Nat) : IsCmp (fun a b => stepL a b k) := by
  rcases (show k = 0 ∨ k = 1 ∨ k = 2 ∨ k = 3 ∨ k = 4 ∨ k = 5 ∨ k = 6 ∨ 7 ≤ k by omega) with rfl | rfl | rfl | rfl | rfl | rfl | rfl | h
  · exact cmpS_is.comap Ent.row
  · exact cmpN_is.comap Ent.fam
  · exact firstN_is 5
  · exact cmpS_is.comap Ent.qual
  · exact firstN_is 4
  · exact (cmpN_is.comap Ent.ts).flip
  · exact (cmpN_is.comap Ent.seq).flip
  · obtain ⟨m, rfl⟩ : ∃ m, k = m + 7 := ⟨k - 7, by omega⟩
    exact cmpN_is.comap Ent.kind
theorem cmpFrom_is : ∀ n k, IsCmp (fun a b => cmpFrom a b n k)
  | 0, _ => ⟨fun _ _ => rfl, fun _ _ _ h _ => h, fun _ _ _ _ _ _ => ⟨rfl, rfl⟩⟩
  | n + 1, k => (stepL_is k).lex (cmpFrom_is n (k + 1))
/-- The order of entries is one. -/
theorem compareL_is : IsCmp compareL := cmpFrom_is 8 0

/-- Bytes compared as numbers. -/
def cmpI : List Int → List Int → Int
  | [], [] => 0
  | [], _ :: _ => -1
  | _ :: _, [] => 1
  | a :: xs, b :: ys => if a < b then -1 else if b < a then 1 else cmpI xs ys
def ByteL (l : List Int) : Prop := ∀ n ∈ l, 0 ≤ n ∧ n ≤ 255
theorem cmpS_eq (l m : List Int) (hl : ByteL l) (hm : ByteL m) : cmpS l m = cmpI l m := by
  unfold cmpS
  simp only [strOfNums]
  induction l generalizing m with
  | nil => cases m <;> simp [Lib.compareBytes, cmpI]
  | cons a xs ih =>
    cases m with
    | nil => simp [Lib.compareBytes, cmpI]
    | cons b ys =>
      have ha := hl a (by simp)
      have hb := hm b (by simp)
      have e := ih ys (fun n hn => hl n (by simp [hn])) (fun n hn => hm n (by simp [hn]))
      simp only [List.map_cons, Lib.compareBytes, cmpI]
      have t : ∀ n : Int, 0 ≤ n → n ≤ 255 → (UInt8.ofNat n.toNat).toNat = n.toNat := by
        intro n h0 h1
        simp only [UInt8.toNat_ofNat']
        omega
      simp only [UInt8.lt_iff_toNat_lt, t a ha.1 ha.2, t b hb.1 hb.2]
      have e1 : (a.toNat < b.toNat) ↔ a < b := by omega
      have e2 : (b.toNat < a.toNat) ↔ b < a := by omega
      simp only [e1, e2]
      (repeat' split) <;> first | rfl | exact e
theorem cmpI_step (l m : List Int) (i : Nat) (h1 : i < l.length) (h2 : i < m.length) : cmpI (l.drop i) (m.drop i) = if gt l i < gt m i then -1 else if gt m i < gt l i then 1 else cmpI (l.drop (i + 1)) (m.drop (i + 1)) := by
  rw [List.drop_eq_getElem_cons h1, List.drop_eq_getElem_cons h2]
  simp [cmpI, gt, h1, h2]
theorem cmpI_end (l m : List Int) (i : Nat) (h : i = l.length ∨ i = m.length) (h1 : i ≤ l.length) (h2 : i ≤ m.length) : cmpI (l.drop i) (m.drop i) = cmpN l.length m.length := by
  unfold cmpN
  rcases h with rfl | rfl
  · rw [List.drop_length]
    by_cases h3 : l.length = m.length
    · rw [h3, List.drop_length]; simp [cmpI]
    · rw [List.drop_eq_getElem_cons (by omega)]; simp only [cmpI]; rw [if_pos (by omega)]
  · rw [List.drop_length]
    by_cases h3 : l.length = m.length
    · rw [← h3, List.drop_length]; simp [cmpI]
    · rw [List.drop_eq_getElem_cons (by omega)]; simp only [cmpI]; rw [if_neg (by omega), if_pos (by omega)]
end Go.Proofs.Ytckhefkedkipeaa

/- What was handed out is written full and lengthened: what stands then. -/
import Derived.Test.YtckhefkedkipeaaKept3
namespace Go.Proofs.Ytckhefkedkipeaa
open Go.RowKit

/-- The mark of a place. -/
def mark (k : Nat) : Int := 1 + (k : Int) % 250
theorem mark_lo (k : Nat) : 1 ≤ mark k := by unfold mark; omega
theorem mark_hi (k : Nat) : mark k ≤ 250 := by unfold mark; have := Nat.mod_lt k (show 0 < 250 by omega); omega
theorem gt_rep (n : Nat) (x : Int) (j : Nat) (h : j < n) : gt (List.replicate n x) j = x := by simp [gt, h]
theorem gt_set (l : List Int) (j k : Nat) (x : Int) (hj : j < l.length) (hk : k < l.length) : gt (l.set j x) k = if j = k then x else gt l k := by
  simp only [gt, List.getD_eq_getElem?_getD, List.getElem?_set]
  by_cases h : j = k
  · subst h; simp [hj]
  · simp [h]
theorem rep_of (l : List Int) (x : Int) (h : ∀ j, j < l.length → gt l j = x) : l = List.replicate l.length x := by
  apply List.ext_getElem
  · simp
  · intro j h1 h2
    have := h j h1
    simp only [gt, List.getD_eq_getElem?_getD, List.getElem?_eq_getElem h1, Option.getD_some] at this
    simp [this]
theorem split_at {α : Type} (l : List α) (k : Nat) (x : α) (h : l[k]? = some x) : ∃ A B, l = A ++ x :: B ∧ A.length = k := by
  obtain ⟨hk, hx⟩ := List.getElem?_eq_some_iff.1 h
  refine ⟨l.take k, l.drop (k + 1), ?_, by simp; omega⟩
  rw [← hx, ← List.drop_eq_getElem_cons hk, List.take_append_drop]
theorem set_at {α : Type} (A B : List α) (x y : α) : (A ++ x :: B).set A.length y = A ++ y :: B := by simp

/-- One byte string of what is kept lies in a block that nothing else of it has. -/
theorem sep_one {p : Nat} {Lv Wv : Value} {A B : List It} {it : It} (h : (pcs p Lv Wv (A ++ it :: B)).Pairwise Sep) :
    Sep it.v (pv p) ∧ Sep it.v Lv ∧ Sep it.v Wv ∧ Sep it.v it.u ∧ ∀ i2 ∈ A ++ B, Sep it.v i2.v ∧ Sep it.v i2.u := by
  have e : vals (A ++ it :: B) = vals A ++ (it.v :: it.u :: vals B) := by simp [vals]
  simp only [pcs, e, List.pairwise_cons, List.pairwise_append] at h
  obtain ⟨h1, h2, h3, h4, ⟨h5, h6, h7⟩, h8⟩ := h
  refine ⟨Sep.symm (h1 _ (by simp)), Sep.symm (h2 _ (by simp)), Sep.symm (h3 _ (by simp)), h5 _ (by simp), fun i2 hi => ?_⟩
  rcases List.mem_append.1 hi with hi | hi
  · have hv : i2.v ∈ vals A := by simp only [vals, List.mem_flatMap]; exact ⟨i2, hi, by simp⟩
    have hu : i2.u ∈ vals A := by simp only [vals, List.mem_flatMap]; exact ⟨i2, hi, by simp⟩
    exact ⟨Sep.symm (h8 _ hv _ (by simp)), Sep.symm (h8 _ hu _ (by simp))⟩
  · have hv : i2.v ∈ vals B := by simp only [vals, List.mem_flatMap]; exact ⟨i2, hi, by simp⟩
    have hu : i2.u ∈ vals B := by simp only [vals, List.mem_flatMap]; exact ⟨i2, hi, by simp⟩
    exact ⟨h5 _ (by simp [hv]), h5 _ (by simp [hu])⟩
/-- The block of a value. -/
def Blk (v : Value) (k : Nat) : Prop := v.ownBlock = some k
theorem Sep.off {v z : Value} (h : Sep v z) : Off (Blk v) z := fun k hk hb => h k hb hk
theorem vals_set (A B : List It) (it : It) (l : List Int) : vals (A ++ ⟨it.v, it.u, l, it.m⟩ :: B) = vals (A ++ it :: B) := by simp [vals]
/-- One byte string is written. -/
theorem Kst.write {w w' : World} {N p : Nat} {Lv Wv : Value} {A B : List It} {it : It} {l : List Int} (h : Kst w N p Lv Wv (A ++ it :: B)) (hf : Fr (Blk it.v) w w') (hv : OwB w' it.v l) (hl : l.length ≤ 140737488350000) :
    Kst w' N p Lv Wv (A ++ ⟨it.v, it.u, l, it.m⟩ :: B) := by
  obtain ⟨s1, s2, s3, s4, s5⟩ := sep_one h.sep
  refine ⟨h.var.fr hf fun hb => s1 p hb (by simp [pv, Value.ownBlock]), ?_, ?_, ?_, ?_, ?_, ?_⟩
  · have := h.L.fr hf s2.off; simpa using this
  · have := h.W.fr hf s3.off; simpa using this
  · intro i2 hi
    rcases List.mem_append.1 hi with hi | hi
    · have ho := h.own i2 (by simp [hi])
      have hs := s5 i2 (by simp [hi])
      exact ⟨ho.1.fr hf hs.1.off, ho.2.fr hf hs.2.off⟩
    · rcases List.mem_cons.1 hi with rfl | hi
      · exact ⟨hv, (h.own it (by simp)).2.fr hf s4.off⟩
      · have ho := h.own i2 (by simp [hi])
        have hs := s5 i2 (by simp [hi])
        exact ⟨ho.1.fr hf hs.1.off, ho.2.fr hf hs.2.off⟩
  · intro i2 hi
    rcases List.mem_append.1 hi with hi | hi
    · exact h.small i2 (by simp [hi])
    · rcases List.mem_cons.1 hi with rfl | hi
      · exact ⟨hl, (h.small it (by simp)).2⟩
      · exact h.small i2 (by simp [hi])
  · have := h.sep; unfold pcs at this ⊢; rw [vals_set]; exact this
  · have := h.frm; unfold pcs at this ⊢; rw [vals_set]; exact this

/-- The byte strings ahead of a place were lengthened: they can be read. -/
structure Lst (w : World) (N p : Nat) (Lv Wv : Value) (its : List It) (i : Nat) : Prop where
  var : Var w p 39 #[Lv, Wv]
  L : Ow w 23 1 Lv its.length (its.map (·.v))
  W : Ow w 23 1 Wv its.length (its.map (·.u))
  rd : ∀ it ∈ its, RdB w it.v it.l ∧ OwB w it.u it.m
  own : ∀ k it, i ≤ k → its[k]? = some it → OwB w it.v it.l
  small : ∀ it ∈ its, it.l.length ≤ 140737488350000 ∧ it.m.length ≤ 140737488350000
  sep : (pcs p Lv Wv its).Pairwise Sep
  frm : ∀ z ∈ pcs p Lv Wv its, From N z
theorem Kst.lst {w : World} {N p : Nat} {Lv Wv : Value} {its : List It} (h : Kst w N p Lv Wv its) : Lst w N p Lv Wv its 0 :=
  ⟨h.var, h.L, h.W, fun it hit => ⟨(h.own it hit).1.rd, (h.own it hit).2⟩, fun _ it _ hit => (h.own it (List.mem_of_getElem? hit)).1, h.small, h.sep, h.frm⟩
theorem Lst.fr {S : Nat → Prop} {w w' : World} {N p : Nat} {Lv Wv : Value} {its : List It} {i : Nat} (h : Lst w N p Lv Wv its i) (hf : Fr S w w') (hS : ∀ z ∈ pcs p Lv Wv its, Off S z) : Lst w' N p Lv Wv its i := by
  have hv : ∀ it ∈ its, Off S it.v ∧ Off S it.u := fun it hit =>
    ⟨hS _ (by simp only [pcs, vals, List.mem_cons, List.mem_flatMap]; exact .inr (.inr (.inr ⟨it, hit, by simp⟩))), hS _ (by simp only [pcs, vals, List.mem_cons, List.mem_flatMap]; exact .inr (.inr (.inr ⟨it, hit, by simp⟩)))⟩
  exact ⟨h.var.fr hf fun hs => hS (pv p) (by simp [pcs]) p (by simp [pv, Value.ownBlock]) hs, h.L.fr hf (hS _ (by simp [pcs])), h.W.fr hf (hS _ (by simp [pcs])),
    fun it hit => ⟨(h.rd it hit).1.fr hf (hv it hit).1, (h.rd it hit).2.fr hf (hv it hit).2⟩, fun k it hk hit => (h.own k it hk hit).fr hf (hv it (List.mem_of_getElem? hit)).1, h.small, h.sep, h.frm⟩
theorem Lst.ext {w w' : World} {N p : Nat} {Lv Wv : Value} {its : List It} {i : Nat} (h : Lst w N p Lv Wv its i) (he : Ext w w') : Lst w' N p Lv Wv its i := h.fr (Fr.ext he fun _ => False) fun _ _ _ _ hf => hf
/-- One more was lengthened. -/
theorem Lst.next {w w' : World} {N p : Nat} {Lv Wv : Value} {A B : List It} {it : It} (h : Lst w N p Lv Wv (A ++ it :: B) A.length) (hf : Fr (Blk it.v) w w') (hv : RdB w' it.v it.l) : Lst w' N p Lv Wv (A ++ it :: B) (A.length + 1) := by
  obtain ⟨s1, s2, s3, s4, s5⟩ := sep_one h.sep
  refine ⟨h.var.fr hf fun hb => s1 p hb (by simp [pv, Value.ownBlock]), h.L.fr hf s2.off, h.W.fr hf s3.off, ?_, ?_, h.small, h.sep, h.frm⟩
  · intro i2 hi
    rcases List.mem_append.1 hi with hi | hi
    · have ho := h.rd i2 (by simp [hi])
      have hs := s5 i2 (by simp [hi])
      exact ⟨ho.1.fr hf hs.1.off, ho.2.fr hf hs.2.off⟩
    · rcases List.mem_cons.1 hi with rfl | hi
      · exact ⟨hv, (h.rd i2 (by simp)).2.fr hf s4.off⟩
      · have ho := h.rd i2 (by simp [hi])
        have hs := s5 i2 (by simp [hi])
        exact ⟨ho.1.fr hf hs.1.off, ho.2.fr hf hs.2.off⟩
  · intro k i2 hk hit
    have hB : i2 ∈ B := by
      rw [List.getElem?_append_right (by omega)] at hit
      obtain ⟨j, hj⟩ : ∃ j, k - A.length = j + 1 := ⟨k - A.length - 1, by omega⟩
      rw [hj, List.getElem?_cons_succ] at hit
      exact List.mem_of_getElem? hit
    exact (h.own k i2 (by omega) hit).fr hf (s5 i2 (by simp [hB])).1.off

theorem RdB.of {w : World} {ad : Addr} {l : List Int} {c : Nat} (h : ∀ j, j < l.length → w.cell? (ad.add j) = some (.int .u8 (gt l j))) (hc : l.length ≤ c) : RdB w (.slice (some ad) l.length c) l := by
  refine ⟨by simp [nums], _, _, rfl, hc, fun j u hu => ⟨ad, rfl, ?_⟩⟩
  simp only [nums, List.getElem?_map, Option.map_eq_some_iff] at hu
  obtain ⟨x, hx, rfl⟩ := hu
  obtain ⟨hj, hx2⟩ := List.getElem?_eq_some_iff.1 hx
  rw [h j hj]
  simp [gt, hx]
theorem RdB.lt {w : World} {v : Value} {l : List Int} (h : RdB w v l) (h0 : 0 < l.length) : ∀ k, v.ownBlock = some k → k < w.heap.size := by
  intro k hk
  obtain ⟨A, c, rfl, _⟩ := h.shape
  obtain ⟨ad, rfl, hc⟩ := h.at_ 0 h0
  have hb : (ad.add 0).block = ad.block := by unfold Addr.add; split <;> rfl
  have := World.block_lt_of_cell? w _ hc
  rw [hb] at this
  simp [Value.ownBlock] at hk
  omega
/-- A value that shares the block of a longer one reads as that one begins. -/
theorem RdB.share {w w0 : World} {v g : Value} {l L : List Int} (hv : OwB w0 v l) (hg : OwB w g L) (hb : ∀ b, v.ownBlock = some b → g.ownBlock = some b) (hl : ∀ j, j < l.length → j < L.length ∧ gt L j = gt l j) : RdB w v l := by
  rcases hv.2 with ⟨rfl, h0⟩ | ⟨b, cap, cur, rfl, _, hn, _⟩
  · have hl0 : l = [] := List.eq_nil_of_length_eq_zero h0
    subst hl0
    exact RdB.nil w
  · have hgb := hb b rfl
    rcases hg.2 with ⟨rfl, _⟩ | ⟨b2, cap2, cur2, rfl, _⟩
    · simp [Value.ownBlock] at hgb
    · simp [Value.ownBlock] at hgb
      subst hgb
      refine RdB.of (fun j hj => ?_) hn
      obtain ⟨h1, h2⟩ := hl j hj
      obtain ⟨ad, e, hc⟩ := (OwB.rd hg).at_ j h1
      cases e
      rw [hc, h2]
theorem Fr.more {S : Nat → Prop} {w w1 w2 : World} {r : Option Nat} (h : Fr S w w1) (hg : w1.grownBy w2 r) (hr : ∀ b, r = some b → S b ∨ w.heap.size ≤ b) : Fr S w w2 :=
  ⟨hg.os.trans h.os, hg.tape.trans h.tape, hg.output.trans h.output, Nat.le_trans h.size hg.size, fun k hk hn => (hg.block k (Nat.lt_of_lt_of_le hk h.size) fun e => by
    rcases hr k e.symm with h1 | h1
    · exact hn h1
    · omega).trans (h.block k hk hn)⟩

/-- The lengthened byte strings. -/
structure Mor (w : World) (N1 : Nat) (its : List It) (mv : Value) (i : Nat) (gs : List Value) : Prop where
  own : Ow w 23 1 mv i gs
  frm : From N1 mv
  at_ : ∀ k g it, gs[k]? = some g → its[k]? = some it → RdB w g (List.replicate (it.l.length + 70) (mark k)) ∧ (∀ b, g.ownBlock = some b → it.v.ownBlock = some b ∨ N1 ≤ b) ∧ Sep g mv
theorem Mor.ext {w w' : World} {N1 : Nat} {its : List It} {mv : Value} {i : Nat} {gs : List Value} (h : Mor w N1 its mv i gs) (he : Ext w w') : Mor w' N1 its mv i gs :=
  ⟨h.own.ext he, h.frm, fun k g it hg hit => let ⟨a, b, c⟩ := h.at_ k g it hg hit; ⟨a.ext he, b, c⟩⟩
theorem Mor.fr {w w' : World} {N1 p : Nat} {Lv Wv mv : Value} {A B : List It} {it : It} {gs : List Value} (h : Mor w N1 (A ++ it :: B) mv A.length gs) (hf : Fr (Blk it.v) w w') (hs : (pcs p Lv Wv (A ++ it :: B)).Pairwise Sep)
    (hlt : ∀ b, it.v.ownBlock = some b → b < N1) : Mor w' N1 (A ++ it :: B) mv A.length gs := by
  obtain ⟨_, _, _, _, s5⟩ := sep_one hs
  refine ⟨h.own.fr hf fun k hk hb => by have := hlt k hb; have := h.frm k hk; omega, h.frm, fun k g i2 hg hit => ?_⟩
  obtain ⟨a, b, c⟩ := h.at_ k g i2 hg hit
  have hk : k < A.length := by
    have := (List.getElem?_eq_some_iff.1 hg).1
    have h2 := h.own.1
    omega
  have hA : i2 ∈ A := by
    rw [List.getElem?_append_left hk] at hit
    exact List.mem_of_getElem? hit
  refine ⟨a.fr hf fun j hj hb => ?_, b, c⟩
  rcases b j hj with e | e
  · exact (s5 i2 (by simp [hA])).1 j hb e
  · have := hlt j hb; omega
/-- One more lengthened byte string is noted. -/
theorem Mor.push {w w' : World} {N1 : Nat} {its : List It} {mv mv' g : Value} {i : Nat} {gs : List Value} {it : It} (h : Mor w N1 its mv i gs) (hit : its[i]? = some it) (hg : w.grownBy w' mv.ownBlock) (hat : mv'.ownBlock = mv.ownBlock ∨ mv'.ownBlock = some w.heap.size)
    (ho : Ow w' 23 1 mv' (i + 1) (gs ++ [g])) (hgr : RdB w g (List.replicate (it.l.length + 70) (mark i))) (hgb : ∀ b, g.ownBlock = some b → it.v.ownBlock = some b ∨ N1 ≤ b) (hgm : Sep g mv) (hN : N1 ≤ w.heap.size) : Mor w' N1 its mv' (i + 1) (gs ++ [g]) := by
  have hsep : ∀ x L, RdB w x L → 0 < L.length → Sep x mv → Sep x mv' := by
    intro x L hx hL hs k hk hk'
    rcases hat with e | e
    · exact hs k hk (e ▸ hk')
    · have := hx.lt hL k hk
      rw [hk'] at e
      cases e
      omega
  refine ⟨ho, From.app h.frm hat hN, fun k x i2 hx hit2 => ?_⟩
  have hlen : gs.length = i := by have := h.own.1; omega
  by_cases hk : k < gs.length
  · rw [List.getElem?_append_left hk] at hx
    obtain ⟨a, b, c⟩ := h.at_ k x i2 hx hit2
    exact ⟨a.other hg c, b, hsep x _ a (by simp) c⟩
  · have hki : k = i := by
      have := (List.getElem?_eq_some_iff.1 hx).1
      simp at this
      omega
    subst hki
    rw [List.getElem?_append_right (by omega)] at hx
    have hxg : x = g := by
      rw [hlen] at hx
      simpa using hx.symm
    have hii : it = i2 := Option.some.inj (hit.symm.trans hit2)
    subst hxg hii
    exact ⟨hgr.other hg hgm, hgb, hsep x _ hgr (by simp) hgm⟩
end Go.Proofs.Ytckhefkedkipeaa

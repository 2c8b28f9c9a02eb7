/- MemLent: what stands between the parts of its walk. -/
import Derived.Test.YtckhefkedkipeaaMRefA
namespace Go.Proofs.Ytckhefkedkipeaa
open Go.RowKit
set_option linter.unusedVariables false

theorem Tab.fr {S : Nat → Prop} {w w' : World} {N pa : Nat} {t : Tr} (h : Tab w N pa t) (hf : Fr S w w') (hS : ∀ b, S b → b < N) (hp : ¬ S pa) : Tab w' N pa t := by
  obtain ⟨⟨v, n, B, hV, ht, h0, h1⟩, hpa⟩ := h
  exact ⟨⟨v, n, B, hV.fr hf hp, ht.fr hf hS, h0, h1⟩, hpa⟩
theorem RL.off {S : Nat → Prop} {w w' : World} {N : Nat} {v : Value} {is : List Itm} (h : RL w N v is) (hf : Fr S w w') (ho : ∀ z ∈ v :: strs is, Off S z) : RL w' N v is := by
  refine ⟨h.row.fr hf (ho v (by simp)), fun i hi => ?_, h.frm⟩
  have hm := mem_strs hi
  have hr := h.rd i hi
  exact ⟨hr.row.fr hf (ho _ (by simp [hm.1])), hr.qual.fr hf (ho _ (by simp [hm.2.1])), hr.value.fr hf (ho _ (by simp [hm.2.2]))⟩
/-- Lists that were handed out since a world: nothing of them is shared. -/
structure Lists (w0 W : World) (vs : List (Value × List Itm)) : Prop where
  row : ∀ p ∈ vs, Ow W 25 7 p.1 p.2.length (flat p.2)
  own : ∀ p ∈ vs, ∀ i ∈ p.2, OwE W i.r i.q i.x i.e
  frm : ∀ z ∈ vs.flatMap (fun p => p.1 :: strs p.2), From w0.heap.size z
  sep : (vs.flatMap (fun p => p.1 :: strs p.2)).Pairwise Sep
theorem Lists.nil (w0 W : World) : Lists w0 W [] := ⟨by simp, by simp, by simp, by simp⟩
theorem Lists.ext {w0 W W' : World} {vs : List (Value × List Itm)} (h : Lists w0 W vs) (he : Ext W W') : Lists w0 W' vs :=
  ⟨fun p hp => (h.row p hp).ext he, fun p hp i hi => (h.own p hp i hi).ext he, h.frm, h.sep⟩
theorem Lists.lt {w0 W : World} {vs : List (Value × List Itm)} (h : Lists w0 W vs) : ∀ z ∈ vs.flatMap (fun p => p.1 :: strs p.2), ∀ k, z.ownBlock = some k → k < W.heap.size := by
  intro z hz k hk
  obtain ⟨p, hp, hz⟩ := List.mem_flatMap.1 hz
  rcases List.mem_cons.1 hz with rfl | hz
  · exact (h.row p hp).lt k hk
  · obtain ⟨j, hj, hz⟩ := strs_mem hz
    exact (h.own p hp j hj).lt hz k hk
theorem Lists.snoc {w0 W W' : World} {vs : List (Value × List Itm)} {v : Value} {is : List Itm} (h : Lists w0 W vs) (hx : Ext w0 W) (hl : LL W W' v is) : Lists w0 W' (vs ++ [(v, is)]) := by
  have h' := h.ext hl.ext
  refine ⟨?_, ?_, ?_, ?_⟩
  · intro p hp
    rcases List.mem_append.1 hp with hp | hp
    · exact h'.row p hp
    · simp only [List.mem_singleton] at hp; subst hp; exact hl.row
  · intro p hp
    rcases List.mem_append.1 hp with hp | hp
    · exact h'.own p hp
    · simp only [List.mem_singleton] at hp; subst hp; exact hl.own
  · intro z hz
    rw [List.flatMap_append] at hz
    rcases List.mem_append.1 hz with hz | hz
    · exact h.frm z hz
    · exact (hl.frm z (by simpa using hz)).mono hx.size
  · rw [List.flatMap_append, List.pairwise_append]
    refine ⟨h.sep, by simpa using hl.sep, ?_⟩
    intro z hz y hy k hk hk'
    have h1 := h.lt z hz k hk
    have h2 := hl.frm y (by simpa using hy) k hk'
    omega
theorem Lists.rl {w0 W : World} {vs : List (Value × List Itm)} (h : Lists w0 W vs) {p : Value × List Itm} (hp : p ∈ vs) : RL W w0.heap.size p.1 p.2 :=
  ⟨(h.row p hp).rd, fun i hi => (h.own p hp i hi).rd, fun z hz => h.frm z (List.mem_flatMap.2 ⟨p, hp, hz⟩)⟩
def allI (vs : List (Value × List Itm)) : List Itm := vs.flatMap (·.2)
theorem strs_append (a b : List Itm) : strs (a ++ b) = strs a ++ strs b := by simp [strs]
theorem Lists.sepS {w0 W : World} : ∀ {vs : List (Value × List Itm)}, (vs.flatMap (fun p => p.1 :: strs p.2)).Pairwise Sep → (strs (allI vs)).Pairwise Sep
  | [], _ => by simp [allI, strs]
  | p :: vs, h => by
    have e : strs (allI (p :: vs)) = strs p.2 ++ strs (allI vs) := by simp [allI, strs]
    rw [List.flatMap_cons, List.pairwise_append] at h
    obtain ⟨h1, h2, h3⟩ := h
    rw [e, List.pairwise_append]
    refine ⟨(List.pairwise_cons.1 h1).2, Lists.sepS (w0 := w0) (W := W) h2, fun z hz y hy => h3 z (by simp [hz]) y ?_⟩
    obtain ⟨j, hj, hy⟩ := strs_mem hy
    obtain ⟨q, hq, hj⟩ := List.mem_flatMap.1 hj
    refine List.mem_flatMap.2 ⟨q, hq, ?_⟩
    have := mem_strs hj
    rcases hy with rfl | rfl | rfl
    · simp [this.1]
    · simp [this.2.1]
    · simp [this.2.2]
theorem Lists.mem {vs : List (Value × List Itm)} {i : Itm} (hi : i ∈ allI vs) : ∀ z, z = i.r ∨ z = i.q ∨ z = i.x → z ∈ vs.flatMap (fun p => p.1 :: strs p.2) := by
  intro z hz
  obtain ⟨q, hq, hj⟩ := List.mem_flatMap.1 hi
  refine List.mem_flatMap.2 ⟨q, hq, ?_⟩
  have := mem_strs hj
  rcases hz with rfl | rfl | rfl
  · simp [this.1]
  · simp [this.2.1]
  · simp [this.2.2]
/-- What has been kept of the lists. -/
def KR (Wl : World) (N p : Nat) (Lv0 Wv0 : Value) (its : List It) (done : List Itm) (wr : World) : Prop :=
  ∃ Lv Wv new, KO Wl N p Lv0 Wv0 its new wr Lv Wv ∧ new.map (·.v) = strs done ∧ (∀ it ∈ new, it.l = it.m)
theorem strs_len : ∀ is : List Itm, (strs is).length = 3 * is.length
  | [] => rfl
  | i :: is => by have := strs_len is; simp [strs] at this ⊢; omega
/-- The lists still read. -/
theorem KR.rl {w0 Wl wr : World} {N p : Nat} {Lv0 Wv0 : Value} {its : List It} {done : List Itm} {vs : List (Value × List Itm)} (h : KR Wl N p Lv0 Wv0 its done wr) (hk : Kst w0 N p Lv0 Wv0 its) (hl : Lists w0 Wl vs) {q : Value × List Itm} (hq : q ∈ vs) :
    RL wr w0.heap.size q.1 q.2 := by
  obtain ⟨Lv, Wv, new, hKO, _, _⟩ := h
  exact (hl.rl hq).off hKO.fr fun z hz => Clr.off (hk.clr (hl.frm z (List.mem_flatMap.2 ⟨q, hq, hz⟩)))
theorem KR.var {w0 Wl wr : World} {N p b T : Nat} {Lv0 Wv0 : Value} {its : List It} {done : List Itm} {cs : Array Value} (h : KR Wl N p Lv0 Wv0 its done wr) (hk : Kst w0 N p Lv0 Wv0 its) (hV : Var Wl b T cs) (hb : w0.heap.size ≤ b) : Var wr b T cs := by
  obtain ⟨Lv, Wv, new, hKO, _, _⟩ := h
  exact hV.fr hKO.fr (Tb.clr (hk.clr (From.new _ _ _ _ _ hb)))
theorem KR.ext {Wk Wl wr : World} {p : Nat} {Lv0 Wv0 : Value} {its : List It} {done : List Itm} (h : KR Wl Wk.heap.size p Lv0 Wv0 its done wr) (hk : Kst Wl Wk.heap.size p Lv0 Wv0 its) (hE : Ext Wk Wl) : Ext Wk wr := by
  obtain ⟨Lv, Wv, new, hKO, _, _⟩ := h
  refine Fr.toExt hE hKO.fr fun b ht => ?_
  rcases ht with rfl | ht | ht
  · exact hk.frm (pv b) (by simp [pcs]) b (by simp [pv, Value.ownBlock])
  · exact hk.frm Lv0 (by simp [pcs]) b ht
  · exact hk.frm Wv0 (by simp [pcs]) b ht
theorem KR.after {Wl wr w' : World} {N p : Nat} {Lv0 Wv0 : Value} {its : List It} {done : List Itm} (h : KR Wl N p Lv0 Wv0 its done wr) (he : Ext wr w') : KR Wl N p Lv0 Wv0 its done w' := by
  obtain ⟨Lv, Wv, new, hKO, h1, h2⟩ := h
  exact ⟨Lv, Wv, new, hKO.after he, h1, h2⟩
theorem KR.none {Wl w' : World} {N p : Nat} {Lv0 Wv0 : Value} {its : List It} (h : Kst Wl N p Lv0 Wv0 its) (he : Ext Wl w') : KR Wl N p Lv0 Wv0 its [] w' := ⟨Lv0, Wv0, [], KO.none h he, rfl, by simp⟩
/-- One entry more is kept. -/
theorem KR.step {w0 Wl wr : World} {N p : Nat} {Lv0 Wv0 : Value} {its : List It} {done : List Itm} {vs : List (Value × List Itm)} {i : Itm} (h : KR Wl N p Lv0 Wv0 its done wr) (hk : Kst w0 N p Lv0 Wv0 its) (hw : Ext w0 Wl) (hN : N ≤ w0.heap.size) (hl : Lists w0 Wl vs) (hp : (done ++ [i]) <+: allI vs)
    (hc : checkL i.e = 0) (hn : its.length + 3 * done.length ≤ 900) :
    ∃ Lv Wv new, Kst wr N p Lv Wv (its ++ new) ∧ OwE wr i.r i.q i.x i.e ∧ (i.e.row.length ≤ 140737488350000 ∧ i.e.qual.length ≤ 140737488350000 ∧ i.e.value.length ≤ 140737488350000) ∧ FromE N i.r i.q i.x ∧
      Clr (pcs p Lv Wv (its ++ new)) i.r ∧ Clr (pcs p Lv Wv (its ++ new)) i.q ∧ Clr (pcs p Lv Wv (its ++ new)) i.x ∧ (its ++ new).length ≤ 900 ∧
      ∀ w' Lv' Wv' c1 c2 c3, KO wr N p Lv Wv (its ++ new) [⟨i.r, c1, i.e.row, i.e.row⟩, ⟨i.q, c2, i.e.qual, i.e.qual⟩, ⟨i.x, c3, i.e.value, i.e.value⟩] w' Lv' Wv' → KR Wl N p Lv0 Wv0 its (done ++ [i]) w' := by
  obtain ⟨Lv, Wv, new, hKO, hv, hs⟩ := h
  have hi : i ∈ allI vs := hp.subset (by simp)
  have hm := Lists.mem hi
  have hfr : ∀ z, z = i.r ∨ z = i.q ∨ z = i.x → From w0.heap.size z := fun z hz => hl.frm z (hm z hz)
  have hclr : ∀ z, z = i.r ∨ z = i.q ∨ z = i.x → Clr (pcs p Lv0 Wv0 its) z := fun z hz => hk.clr (hfr z hz)
  have how : OwE Wl i.r i.q i.x i.e := by
    obtain ⟨q, hq, hj⟩ := List.mem_flatMap.1 hi
    exact hl.own q hq i hj
  have hpw := Lists.sepS (w0 := w0) (W := Wl) hl.sep
  have hsub : (strs done ++ [i.r, i.q, i.x]).Pairwise Sep := by
    obtain ⟨rest, hr⟩ := hp
    have e : strs (allI vs) = (strs done ++ [i.r, i.q, i.x]) ++ strs rest := by rw [← hr, strs_append, strs_app]
    rw [e, List.pairwise_append] at hpw
    exact hpw.1
  have hsepn : ∀ z, z = i.r ∨ z = i.q ∨ z = i.x → ∀ it ∈ new, Sep it.v z := by
    intro z hz it hit
    have h1 : it.v ∈ strs done := by rw [← hv]; exact List.mem_map_of_mem hit
    exact (List.pairwise_append.1 hsub).2.2 _ h1 z (by simpa using hz)
  have hlt : ∀ z, z = i.r ∨ z = i.q ∨ z = i.x → ∀ k, z.ownBlock = some k → k < Wl.heap.size := fun z hz => hl.lt z (hm z hz)
  have hc2 : ∀ z, z = i.r ∨ z = i.q ∨ z = i.x → Clr (pcs p Lv Wv (its ++ new)) z := fun z hz => hKO.clr z (hclr z hz) (hsepn z hz) (hlt z hz)
  have hck := check_ok _ hc
  have hnew : new.length = 3 * done.length := by
    have := congrArg List.length hv
    rw [strs_len] at this
    simpa using this
  refine ⟨Lv, Wv, new, hKO.st, how.off hKO.fr (Clr.off (hclr _ (.inl rfl))) (Clr.off (hclr _ (.inr (.inl rfl)))) (Clr.off (hclr _ (.inr (.inr rfl)))), ⟨by omega, by omega, by omega⟩,
    ⟨(hfr _ (.inl rfl)).mono hN, (hfr _ (.inr (.inl rfl))).mono hN, (hfr _ (.inr (.inr rfl))).mono hN⟩, hc2 _ (.inl rfl), hc2 _ (.inr (.inl rfl)), hc2 _ (.inr (.inr rfl)), by rw [List.length_append]; omega, ?_⟩
  intro w' Lv' Wv' c1 c2 c3 hK2
  refine ⟨Lv', Wv', _, hKO.trans hK2, ?_, ?_⟩
  · rw [List.map_append, hv, strs_app]; rfl
  · intro it hit
    rcases List.mem_append.1 hit with hit | hit
    · exact hs it hit
    · simp only [List.mem_cons, List.not_mem_nil, or_false] at hit
      rcases hit with rfl | rfl | rfl <;> rfl
/-- All is kept. -/
theorem KR.done {Wl wr : World} {N p : Nat} {Lv0 Wv0 : Value} {its : List It} {done : List Itm} (h : KR Wl N p Lv0 Wv0 its done wr) (hs : ∀ it ∈ its, it.l = it.m) :
    ∃ Lv Wv its', Kst wr N p Lv Wv its' ∧ (∀ it ∈ its', it.l = it.m) ∧ its'.length = its.length + 3 * done.length := by
  obtain ⟨Lv, Wv, new, hKO, hv, h2⟩ := h
  refine ⟨Lv, Wv, its ++ new, hKO.st, fun it hit => (List.mem_append.1 hit).elim (hs it) (h2 it), ?_⟩
  have := congrArg List.length hv
  rw [strs_len] at this
  rw [List.length_append]
  simp at this
  omega
theorem Kst.new {w : World} {q : Nat} (h : Var w q 39 #[.slice none 0 0, .slice none 0 0]) : Kst w q q (.slice none 0 0) (.slice none 0 0) [] := by
  refine ⟨h, Ow.nil _ _ _, Ow.nil _ _ _, by simp, by simp, ?_, ?_⟩
  · simp only [pcs, vals, List.flatMap_nil, List.pairwise_cons, List.mem_cons, List.not_mem_nil, or_false]
    refine ⟨?_, ?_, by simp, List.Pairwise.nil⟩
    · rintro z (rfl | rfl) <;> exact Sep.nil _ _ _
    · rintro z rfl; exact Sep.nil _ _ _
  · intro z hz
    simp only [pcs, vals, List.flatMap_nil, List.mem_cons, List.not_mem_nil, or_false] at hz
    rcases hz with rfl | rfl | rfl
    · intro k hk; simp [pv, Value.ownBlock] at hk; omega
    · exact From.nil _ _ _
    · exact From.nil _ _ _
theorem Mkd.full {its its' : List It} (h : Mkd its its' (fun _ _ => True)) : ∀ k it, its'[k]? = some it → it.l = List.replicate it.l.length (mark k) := by
  intro k it hk
  have hk1 : k < its.length := by
    have := (List.getElem?_eq_some_iff.1 hk).1
    have := h.len
    omega
  obtain ⟨l', h1, h2, h3⟩ := h.at_ k _ (List.getElem?_eq_getElem hk1)
  have h4 : it.l = l' := it_len h1 hk
  rw [h4]
  exact rep_of l' _ fun j hj => h3 j hj trivial
theorem allI_take (vs : List (Value × List Itm)) (c : Nat) (q : Value × List Itm) (h : vs[c]? = some q) : allI (vs.take (c + 1)) = allI (vs.take c) ++ q.2 := by
  rw [List.take_add_one, h]
  simp [allI]
theorem allI_pre (vs : List (Value × List Itm)) (c n : Nat) (q : Value × List Itm) (i : Itm) (h : vs[c]? = some q) (hi : q.2[n]? = some i) : (allI (vs.take c) ++ q.2.take n ++ [i]) <+: allI vs := by
  have h1 : q.2.take (n + 1) = q.2.take n ++ [i] := by rw [List.take_add_one, hi]; rfl
  rw [List.append_assoc, ← h1]
  have h2 : allI (vs.take (c + 1)) <+: allI vs := by
    refine ⟨allI (vs.drop (c + 1)), ?_⟩
    simp only [allI, ← List.flatMap_append, List.take_append_drop]
  refine List.IsPrefix.trans ?_ h2
  rw [allI_take vs c q h]
  exact (List.prefix_append_right_inj _).2 (List.take_prefix _ _)
theorem allI_take_len (vs : List (Value × List Itm)) (m : Nat) (h : ∀ q ∈ vs, q.2.length ≤ m) : ∀ c, (allI (vs.take c)).length ≤ c * m
  | 0 => by simp [allI]
  | c + 1 => by
    have ih := allI_take_len vs m h c
    by_cases hc : c < vs.length
    · rw [allI_take vs c _ (List.getElem?_eq_getElem hc), List.length_append]
      have := h _ (List.getElem_mem hc)
      rw [Nat.add_mul]; omega
    · rw [List.take_of_length_le (by omega)]
      rw [List.take_of_length_le (by omega)] at ih
      rw [Nat.add_mul]; omega
end Go.Proofs.Ytckhefkedkipeaa

/- What ranges over a table give, gathered: from and rows. -/
import Derived.Test.YtckhefkedkipeaaMFrom
namespace Go.Proofs.Ytckhefkedkipeaa
open Go.RowKit
set_option linter.unusedVariables false
attribute [local go_sem] Oper.semAt_some

theorem infoE : (Try.prog.info? 25).map (fun i => (i.zero, i.size, i.bytes)) = some (some (.agg #[.slice none 0 0, .int .i64 0, .slice none 0 0, .int .i64 0, .int .i64 0, .int .i64 0, .slice none 0 0]), 7, 104) := by kernel_rfl
/-- append of an entry, in a round. -/
theorem wpIn_appE {F : Fence} {k : Nat} {ops : Array Oper} {rest : List Oper} {o : Oper} {a : Act} {W : World} {Q : Exit → Act → World → Prop}
    (hgd : o.guard = none) (s x : Operand) (ho : o.op = .call { callee := .builtin .append, args := #[s, x], argTypes := #[22, 22] })
    {v y : Value} {n m : Nat} {xs ys : List Value} (hs : a.eval s = v) (hx : a.eval x = y) (hown : Ow W 25 7 v n xs) (hr : Rd W y m 7 ys) (h1 : ∀ u ∈ ys, u.oneCell' = true) (hb : n + m ≤ 10000)
    (h : ∀ v' w', Ow w' 25 7 v' (n + m) (xs ++ ys) → W.grownBy w' v.ownBlock → (v'.ownBlock = v.ownBlock ∨ v'.ownBlock = some W.heap.size) → wpListIn F k Try.prog ops Q rest (a.put o.dst v') w') :
    wpListIn F k Try.prog ops Q (o :: rest) a W := by
  refine wpListIn_plain hgd fun K hK' => ?_
  obtain ⟨v', w', hrun, h2, h3, h4⟩ := run_app (P := Try.prog) W 22 o.type 25 _ 7 104 Try.underlying22 infoE rfl (by omega) v y n m xs ys hown hr h1 (by omega) (by omega)
  unfold Oper.wpIn
  refine ⟨?_, ?_⟩
  · simp [Oper.about, ho, resolve, Target.leads, Sem.run_pure]
  · rw [Oper.semAt_plain F _ _ (by rw [ho]; intro c hc'; cases hc')]
    simp [execOp, ho, resolve, invoke, builtin, hs, hx, hrun, Result.andThen]
    exact hK' _ _ (h v' w' h2 h3 h4)

def strs (is : List Itm) : List Value := is.flatMap fun i => [i.r, i.q, i.x]
def flat (is : List Itm) : List Value := is.flatMap fun i => [i.r, .int .i64 i.e.fam, i.q, .int .i64 i.e.ts, .int .i64 i.e.seq, .int .i64 i.e.kind, i.x]
theorem flat_app (a : List Itm) (i : Itm) : flat (a ++ [i]) = flat a ++ [i.r, .int .i64 i.e.fam, i.q, .int .i64 i.e.ts, .int .i64 i.e.seq, .int .i64 i.e.kind, i.x] := by simp [flat]
theorem strs_app (a : List Itm) (i : Itm) : strs (a ++ [i]) = strs a ++ [i.r, i.q, i.x] := by simp [strs]
/-- What a loop that gathers keeps. -/
structure LJ (w2 : World) (bl : Nat) (B : Nat) (is : List Itm) (W : World) : Prop where
  ex : ∃ v, Var W bl 22 #[v] ∧ Ow W 25 7 v is.length (flat is) ∧ From B v ∧ (∀ z ∈ strs is, Sep v z)
  own : ∀ i ∈ is, OwE W i.r i.q i.x i.e
  frm : ∀ z ∈ strs is, From B z
  sep : (strs is).Pairwise Sep
  fr : Fr (fun k => k = bl) w2 W
  base : w2.heap.size ≤ B ∧ B ≤ W.heap.size
theorem LJ.firm (w2 : World) (bl B : Nat) (is : List Itm) : Firm w2.heap.size (LJ w2 bl B is) := by
  intro W W' l hl h hb hf
  obtain ⟨v, h1, h2, h3, h4⟩ := h.ex
  exact ⟨⟨v, h1.bare hb hf, h2.bare hb hf, h3, h4⟩, fun i hi => (h.own i hi).bare hb hf, h.frm, h.sep,
    ⟨hf.os.trans h.fr.os, hf.tape.trans h.fr.tape, hf.output.trans h.fr.output, Nat.le_trans h.fr.size hf.size, fun k hk hn => (hf.block k (Nat.lt_of_lt_of_le hk h.fr.size) (by omega)).trans (h.fr.block k hk hn)⟩, h.base.1, Nat.le_trans h.base.2 hf.size⟩
theorem Fr.one {S : Nat → Prop} {w w' : World} {v : Value} (h : w.grownBy w' v.ownBlock) (hS : ∀ k, v.ownBlock = some k → S k) : Fr S w w' := Fr.grown h hS
theorem OwE.off {S : Nat → Prop} {w w' : World} {r q x : Value} {e : Ent} (h : OwE w r q x e) (hf : Fr S w w') (h1 : Off S r) (h2 : Off S q) (h3 : Off S x) : OwE w' r q x e :=
  ⟨Ow.fr h.row hf h1, Ow.fr h.qual hf h2, Ow.fr h.value hf h3, h.rq, h.rx, h.qx⟩
theorem strs_mem {is : List Itm} {z : Value} (h : z ∈ strs is) : ∃ i ∈ is, z = i.r ∨ z = i.q ∨ z = i.x := by
  simp only [strs, List.mem_flatMap, List.mem_cons, List.not_mem_nil, or_false] at h
  exact h
theorem mem_strs {is : List Itm} {i : Itm} (h : i ∈ is) : i.r ∈ strs is ∧ i.q ∈ strs is ∧ i.x ∈ strs is := by
  simp only [strs, List.mem_flatMap]
  exact ⟨⟨i, h, by simp⟩, ⟨i, h, by simp⟩, ⟨i, h, by simp⟩⟩
theorem OwE.lt {w : World} {r q x : Value} {e : Ent} (h : OwE w r q x e) {z : Value} (hz : z = r ∨ z = q ∨ z = x) : ∀ k, z.ownBlock = some k → k < w.heap.size := by
  rcases hz with rfl | rfl | rfl
  · exact Ow.lt h.row
  · exact Ow.lt h.qual
  · exact Ow.lt h.value
theorem OwE.sepz {w : World} {r q x : Value} {e : Ent} (h : OwE w r q x e) {z u : Value} (hz : z = r ∨ z = q ∨ z = x) (hu : From w.heap.size u) : Sep z u := fun k hk hk' => by
  have h1 := h.lt hz k hk
  have h2 := hu k hk'
  omega
/-- A round of gathering. -/
theorem LJ.next {w2 : World} {bl B l : Nat} {pre : List Itm} {i : Itm} {W0 W Z w1 : World} {v v' : Value} (hbl : bl < w2.heap.size) (hl : w2.heap.size ≤ l) (h1 : Var W0 bl 22 #[v]) (h2 : Ow W0 25 7 v pre.length (flat pre)) (h3 : From B v) (h4 : ∀ z ∈ strs pre, Sep v z)
    (hj : LJ w2 bl B pre W0) (hb : Bare W0 l) (hf : Fr (fun k => k = l) W0 W) (ho : OwE W i.r i.q i.x i.e) (hfr : FromE W0.heap.size i.r i.q i.x) (hZ : Ext W Z)
    (hrow : Ow w1 25 7 v' (pre.length + 1) (flat pre ++ [i.r, .int .i64 i.e.fam, i.q, .int .i64 i.e.ts, .int .i64 i.e.seq, .int .i64 i.e.kind, i.x])) (hg : Z.grownBy w1 v.ownBlock) (hat : v'.ownBlock = v.ownBlock ∨ v'.ownBlock = some Z.heap.size) :
    LJ w2 bl B (pre ++ [i]) (w1.setCell ⟨bl, 0, none⟩ v') ∧ Fr (fun k => k = bl ∨ B ≤ k) W (w1.setCell ⟨bl, 0, none⟩ v') := by
  have hB1 := hj.base.1
  have hB2 := hj.base.2
  have hs1 := hf.size
  have hs2 := hZ.size
  have hs3 := hg.size
  have hvl := Ow.lt h2
  have hgv : ∀ S : Nat → Prop, (∀ k, B ≤ k → S k) → Fr S Z w1 := fun S hS => Fr.one hg fun k hk => hS k (h3 k hk)
  have hv3 : From B v' := From.app h3 hat (by omega)
  have hvb : v'.ownBlock ≠ some bl := fun e => by have := hv3 bl e; omega
  have hiv : ∀ z, z = i.r ∨ z = i.q ∨ z = i.x → From W0.heap.size z := by
    rintro z (rfl | rfl | rfl)
    · exact hfr.1
    · exact hfr.2.1
    · exact hfr.2.2
  have hoZ := ho.ext hZ
  have hpre : ∀ j ∈ pre, OwE Z j.r j.q j.x j.e := fun j hj' => ((hj.own j hj').bare hb hf).ext hZ
  have hsepi : ∀ z, z = i.r ∨ z = i.q ∨ z = i.x → Sep v z := fun z hz => Ow.sep h2 (hiv z hz)
  have hback : ∀ {z : Value}, Sep v z → (∀ k, z.ownBlock = some k → k < Z.heap.size) → Sep v' z := by
    intro z hs hlt k hk hk'
    rcases hat with e | e
    · exact hs k (by rw [← e]; exact hk) hk'
    · rw [e] at hk; cases hk; have := hlt _ hk'; omega
  have hblo : ∀ z, From B z → Off (fun k => k = bl) z := fun z hz k hk e => by have := hz k hk; omega
  have hset : Fr (fun k => k = bl) w1 (w1.setCell ⟨bl, 0, none⟩ v') := Fr.set _ _ _ _
  have own2 : ∀ {j : Itm}, OwE Z j.r j.q j.x j.e → (∀ z, z = j.r ∨ z = j.q ∨ z = j.x → Sep v z ∧ From B z) → OwE (w1.setCell ⟨bl, 0, none⟩ v') j.r j.q j.x j.e := by
    intro j hoj hs
    have hF : Fr (Blk v) Z w1 := Fr.one hg fun k hk => hk
    exact (hoj.off hF (Sep.off (hs _ (.inl rfl)).1) (Sep.off (hs _ (.inr (.inl rfl))).1) (Sep.off (hs _ (.inr (.inr rfl))).1)).off hset (hblo _ (hs _ (.inl rfl)).2) (hblo _ (hs _ (.inr (.inl rfl))).2) (hblo _ (hs _ (.inr (.inr rfl))).2)
  have hFl : Fr (fun k => k = bl) w2 W := ⟨hf.os.trans hj.fr.os, hf.tape.trans hj.fr.tape, hf.output.trans hj.fr.output, Nat.le_trans hj.fr.size hf.size, fun k hk hn => (hf.block k (Nat.lt_of_lt_of_le hk hj.fr.size) (by omega)).trans (hj.fr.block k hk hn)⟩
  have hFZ : Fr (fun k => k = bl) w2 Z := hFl.trans (Fr.ext hZ _)
  have hVZ : Var Z bl 22 #[v] := (h1.bare hb hf).ext hZ
  refine ⟨⟨⟨v', ?_, ?_, hv3, ?_⟩, ?_, ?_, ?_, ?_, hB1, ?_⟩, ?_⟩
  · exact (hVZ.grown hg (fun e => by have := h3 bl e; omega)).set 0 v'
  · rw [flat_app, List.length_append]
    exact Ow.set_var hrow hvb 0 v'
  · intro z hz
    rw [strs_app] at hz
    rcases List.mem_append.1 hz with hz | hz
    · obtain ⟨j, hjm, hz'⟩ := strs_mem hz
      exact hback (h4 z hz) ((hpre j hjm).lt hz')
    · have hz' : z = i.r ∨ z = i.q ∨ z = i.x := by simpa using hz
      exact hback (hsepi z hz') (hoZ.lt hz')
  · intro j hjm
    rcases List.mem_append.1 hjm with hjm | hjm
    · refine own2 (hpre j hjm) fun z hz => ?_
      have hm := mem_strs hjm
      have hz2 : z ∈ strs pre := by exact hz.elim (fun e => e ▸ hm.1) fun h => h.elim (fun e => e ▸ hm.2.1) fun e => e ▸ hm.2.2
      exact ⟨h4 z hz2, hj.frm z hz2⟩
    · simp only [List.mem_singleton] at hjm
      subst hjm
      exact own2 hoZ fun z hz => ⟨hsepi z hz, (hiv z hz).mono hB2⟩
  · intro z hz
    rw [strs_app] at hz
    rcases List.mem_append.1 hz with hz | hz
    · exact hj.frm z hz
    · have hz' : z = i.r ∨ z = i.q ∨ z = i.x := by simpa using hz
      exact (hiv z hz').mono hB2
  · rw [strs_app, List.pairwise_append]
    refine ⟨hj.sep, ?_, ?_⟩
    · simp only [List.pairwise_cons, List.mem_cons, List.not_mem_nil, or_false]
      refine ⟨?_, ?_, by simp, List.Pairwise.nil⟩
      · rintro z (rfl | rfl)
        · exact ho.rq
        · exact ho.rx
      · rintro z rfl; exact ho.qx
    · intro z hz y hy
      obtain ⟨j, hjm, hz'⟩ := strs_mem hz
      have hy' : y = i.r ∨ y = i.q ∨ y = i.x := by simpa using hy
      exact (hj.own j hjm).sepz hz' (hiv y hy')
  · refine Fr.trans (⟨?_, ?_, ?_, ?_, ?_⟩ : Fr (fun k => k = bl) w2 w1) hset
    · exact hg.os.trans hFZ.os
    · exact hg.tape.trans hFZ.tape
    · exact hg.output.trans hFZ.output
    · exact Nat.le_trans hFZ.size hg.size
    · intro k hk hn
      exact (hg.block k (Nat.lt_of_lt_of_le hk hFZ.size) (fun e => by have := h3 k e.symm; omega)).trans (hFZ.block k hk hn)
  · have := hset.size; omega
  · exact ((Fr.ext hZ _).trans (hgv _ fun k hk => .inr hk)).trans (hset.mono fun k _ hk => .inl hk)

/-- What from and rows hand back. -/
structure LL (w w' : World) (v : Value) (is : List Itm) : Prop where
  row : Ow w' 25 7 v is.length (flat is)
  own : ∀ i ∈ is, OwE w' i.r i.q i.x i.e
  frm : ∀ z ∈ v :: strs is, From w.heap.size z
  sep : (v :: strs is).Pairwise Sep
  ext : Ext w w'
theorem LJ.toLL {w w2 W : World} {bl B : Nat} {is : List Itm} {v : Value} (h : LJ w2 bl B is W) (hE : Ext w w2) (hbl : w.heap.size ≤ bl) (hv : Var W bl 22 #[v]) : LL w W v is := by
  obtain ⟨v', h1, h2, h3, h4⟩ := h.ex
  have e : v' = v := by
    have h5 : W.heap[bl]? = some (.cells #[v'] 22 (0, 0)) := h1
    have h6 : W.heap[bl]? = some (.cells #[v] 22 (0, 0)) := hv
    rw [h5] at h6
    simpa using h6
  subst e
  have h7 := hE.size
  have h8 := h.base.1
  refine ⟨h2, h.own, ?_, List.pairwise_cons.2 ⟨h4, h.sep⟩, Fr.toExt hE h.fr fun i hi => by omega⟩
  intro z hz
  rcases List.mem_cons.1 hz with rfl | hz
  · exact h3.mono (by omega)
  · exact (h.frm z hz).mono (by omega)
def OutL (w : World) (es : List Ent) (e0 : Ending) (w' : World) : Prop := ∃ v is, e0 = .returned v ∧ LL w w' v is ∧ is.map (·.e) = es

set_option maxHeartbeats 4000000 in
set_option maxRecDepth 100000 in
theorem rows_ok (pa N : Nat) (t : Tr) (w : World) (hT : Tab w N pa t) (hNw : N ≤ w.heap.size) (hok : ∀ e ∈ t.list, checkL e = 0) (hs : t.size ≤ 400) : Calls Try.prog 10 #[.pointer (some ⟨pa, 0, none⟩)] w (OutL w t.list) := by
  obtain ⟨⟨v, n, B0, hV0, ht, _, _⟩, hpa⟩ := hT
  have hVl := Var.new w #[.slice none 0 0] 22
  have hE := (Ext.refl w).alloc (.cells #[.slice none 0 0] 22)
  obtain ⟨X, hX⟩ : ∃ X, w.alloc (.cells #[.slice none 0 0] 22) = X := ⟨_, rfl⟩
  rw [hX] at hVl hE
  have hXs : w.heap.size < X.heap.size := hVl.lt
  have HA : Hid (CallsIn Fence.wide 9 Try.prog 18 #[.pointer (some ⟨pa, 0, none⟩)] X _) := Lib.hid (callsIn_wide.2 (All_ok pa X))
  refine callsIn_wide (n := 10).1 ?_
  refine callsIn_of_wp_marks Try.func10 rfl trivial ?_ rfl
  simp only [Try.ntmps10, List.size_toArray, List.length_cons, List.length_nil, Nat.reduceAdd, Nat.reduceSub, Array.replicate_succ, Array.replicate_zero, List.push_toArray, List.append_toArray, List.nil_append, List.cons_append]
  gi_wp2_with (refine ⟨trivial, ?_⟩; gi_at_call 18; refine HA.out.mono ?_; rintro e0 w2 ⟨rfl, g1, g2, g3, g4⟩)
  clear hX
  have hEw2 : Ext w w2 := hE.trans g1
  have hV2 := hVl.ext g1
  have hg1 := g1.size
  have hseq := behind_all X.heap.size (X.heap.size + 1) pa w.heap.size N w w2 t (fun _ => false) hEw2 ⟨Nat.le_refl _, by omega⟩ ⟨by omega, by omega⟩ ⟨by omega, by omega⟩ hV0.lt g3 g4 v (by rw [hV0.cell]; rfl) ht hok (fun W' _ r q x e _ => all1_ok r q x e W')
  rw [listT_all] at hseq
  have hlen : t.list.length ≤ 400 := by rw [Tr.size_list]; exact hs
  refine range_law (gf := 46) (lb := #[.pointer (some ⟨X.heap.size, 0, none⟩), .pointer (some ⟨X.heap.size + 1, 0, none⟩)]) (bl := w.heap.size) rfl (enters_of Try.func46 (by kernel_rfl) rfl) rfl (by omega) hseq
    (fun B is W => LJ w2 w.heap.size B is W) (fun B is => LJ.firm w2 w.heap.size B is) ?start
    (fun i a' W => ∃ bx, Var W bx 25 (entCells i.r i.q i.x i.e) ∧ bx ≠ w.heap.size ∧ a' = { tmps := #[.pointer (some ⟨pa, 0, none⟩), undef, .slice none 0 0, .pointer (some ⟨w.heap.size, 0, none⟩), .pointer (some ⟨bx, 0, none⟩), .pointer (some ⟨pa, 0, none⟩), .func (.func 46) #[] #[.pointer (some ⟨X.heap.size, 0, none⟩), .pointer (some ⟨X.heap.size + 1, 0, none⟩)], .agg (entCells i.r i.q i.x i.e), undef, undef, undef, undef, undef], defers := [] })
    (fun i a' W W' l _ h hb hf => by obtain ⟨bx, h1, h2, h3⟩ := h; exact ⟨bx, h1.bare hb hf, h2, h3⟩) ?assign ?body ?done
  case start =>
    intro W' h
    have h1 := h.size
    exact ⟨⟨_, hV2.ext h, Ow.nil _ _ _, From.nil _ _ _, by simp [strs]⟩, by simp, by simp [strs], by simp [strs], Fr.ext h _, h1, Nat.le_refl _⟩
  case assign =>
    rintro l ⟨ir, iq, ix, ie⟩ W K hWs hoi hK
    dsimp only at hoi hK ⊢
    obtain ⟨A1, d1, rfl, -⟩ := hoi.row.rd.shape
    obtain ⟨A2, d2, rfl, -⟩ := hoi.qual.rd.shape
    obtain ⟨A3, d3, rfl, -⟩ := hoi.value.rd.shape
    clear hoi
    have hVz := Var.new W #[.slice none 0 0, .int .i64 0, .slice none 0 0, .int .i64 0, .int .i64 0, .int .i64 0, .slice none 0 0] 25
    have hEz := (Ext.refl W).alloc (.cells #[.slice none 0 0, .int .i64 0, .slice none 0 0, .int .i64 0, .int .i64 0, .int .i64 0, .slice none 0 0] 25)
    obtain ⟨Y, hY⟩ : ∃ Y, W.alloc (.cells #[.slice none 0 0, .int .i64 0, .slice none 0 0, .int .i64 0, .int .i64 0, .int .i64 0, .slice none 0 0] 25) = Y := ⟨_, rfl⟩
    rw [hY] at hVz hEz
    have hcu := hVz.cell
    have hzu := hVz.frozen
    obtain ⟨y9, hy9, hV9, hg9⟩ := store7 hVz rfl (.slice A1 ie.row.length d1) (.int .i64 ie.fam) (.slice A2 ie.qual.length d2) (.int .i64 ie.ts) (.int .i64 ie.seq) (.int .i64 ie.kind) (.slice A3 ie.value.length d3)
    have e9 : Ext W y9 := hEz.put hg9 (Nat.le_refl _)
    have HK := Lib.hid hK
    have HV9 := Lib.hid hV9
    clear hK hV9
    simp only [entCells]
    gi_wp2
    exact HK.out _ _ e9 ⟨W.heap.size, HV9.out, by omega, rfl⟩
  case body =>
    rintro l B pre i W0 W a' hlw hj hb hf ⟨bx, hbx, hbn, rfl⟩ ho hfr hpre
    obtain ⟨v, h1, h2, h3, h4⟩ := hj.ex
    obtain ⟨A, c, rfl, -⟩ := Ow.shape h2
    obtain ⟨ir, iq, ix, ie⟩ := i
    dsimp only at hbx ho hfr hpre ⊢
    obtain ⟨A1, d1, rfl, -⟩ := ho.row.rd.shape
    obtain ⟨A2, d2, rfl, -⟩ := ho.qual.rd.shape
    obtain ⟨A3, d3, rfl, -⟩ := ho.value.rd.shape
    have hn : pre.length + 1 ≤ 400 := by
      have h := hpre.length_le
      simp only [List.length_append, List.length_map, List.length_cons, List.length_nil] at h
      omega
    have hv1 := h1.bare hb hf
    have hrow1 := h2.bare hb hf
    simp only [entCells] at hbx ⊢
    have hcb := hbx.cell
    have hcl := hv1.cell
    have hE3 := (Ext.refl W).alloc (.cells #[.slice A1 ie.row.length d1, .int .i64 ie.fam, .slice A2 ie.qual.length d2, .int .i64 ie.ts, .int .i64 ie.seq, .int .i64 ie.kind, .slice A3 ie.value.length d3] 25)
    have hrd : Rd (W.alloc (.cells #[.slice A1 ie.row.length d1, .int .i64 ie.fam, .slice A2 ie.qual.length d2, .int .i64 ie.ts, .int .i64 ie.seq, .int .i64 ie.kind, .slice A3 ie.value.length d3] 25)) (.slice (some ⟨W.heap.size, 0, none⟩) 1 1) 1 7 [.slice A1 ie.row.length d1, .int .i64 ie.fam, .slice A2 ie.qual.length d2, .int .i64 ie.ts, .int .i64 ie.seq, .int .i64 ie.kind, .slice A3 ie.value.length d3] := Rd.lit W #[.slice A1 ie.row.length d1, .int .i64 ie.fam, .slice A2 ie.qual.length d2, .int .i64 ie.ts, .int .i64 ie.seq, .int .i64 ie.kind, .slice A3 ie.value.length d3] 25 1 7 rfl
    obtain ⟨Z, hZ⟩ : ∃ Z, W.alloc (.cells #[.slice A1 ie.row.length d1, .int .i64 ie.fam, .slice A2 ie.qual.length d2, .int .i64 ie.ts, .int .i64 ie.seq, .int .i64 ie.kind, .slice A3 ie.value.length d3] 25) = Z := ⟨_, rfl⟩
    rw [hZ] at hE3 hrd
    have hrow3 := hrow1.ext hE3
    have hvZ := hv1.ext hE3
    have HJ := Lib.hid hj
    have H1 := Lib.hid h1
    have H2 := Lib.hid h2
    have H3 := Lib.hid h3
    have H4 := Lib.hid h4
    have HB := Lib.hid hb
    have HF := Lib.hid hf
    have HO := Lib.hid ho
    have HFR := Lib.hid hfr
    have HR3 := Lib.hid hrow3
    have HRD := Lib.hid hrd
    have HE3 := Lib.hid hE3
    have HVZ := Lib.hid hvZ
    have hbB := hj.base.1
    clear hj h1 h2 h3 h4 hb hf ho hfr hrow1 hrow3 hrd hv1 hpre hbx hE3 hvZ
    gi_wp2_with (gi_at_builtin; refine wpIn_appE rfl (.tmp 8) (.tmp 10) rfl rfl rfl HR3.out HRD.out (by simp [Value.oneCell']) (by omega) ?_; intro v' w3 ho3 hg3 hat3; obtain ⟨A9, c9, rfl, -⟩ := Ow.shape ho3; have hv3 := HVZ.out.grown hg3 (fun e => by have := H3.out _ e; omega); have hc3 := hv3.cell; have hz3 := hv3.frozen)
    exact LJ.next (i := ⟨.slice A1 ie.row.length d1, .slice A2 ie.qual.length d2, .slice A3 ie.value.length d3, ie⟩) (by omega) hlw H1.out H2.out H3.out H4.out HJ.out HB.out HF.out HO.out HFR.out HE3.out ho3 hg3 hat3
  case done =>
    intro D B is W hD hj hes hD2
    obtain ⟨v, h1, h2, h3, h4⟩ := hj.ex
    obtain ⟨A, c, rfl, -⟩ := Ow.shape h2
    have hc1 := h1.cell
    have HF := Lib.hid (LJ.toLL (LJ.firm w2 w.heap.size B is W (W.putObj D (.deferred none)) D hD hj ⟨_, hD2, rfl⟩ (Fr.putObj _ _ _)) hEw2 (Nat.le_refl _) (h1.bare ⟨_, hD2, rfl⟩ (Fr.putObj _ _ _)))
    have HES := Lib.hid hes
    clear hj h1 h2 h3 h4 hes
    gi_wp2
    refine ⟨by simp, .inl ⟨_, _, rfl, run_takeDeferred hD2, ?_⟩⟩
    exact ⟨_, results_tmp rfl _ _ _, .slice A is.length c, is, rfl, HF.out, HES.out⟩
theorem RdE.offB {S : Nat → Prop} {w w' : World} {r q x : Value} {e : Ent} (h : RdE w r q x e) (hf : Fr S w w') {N : Nat} (hS : ∀ b, S b → b < N) (hN : FromE N r q x) : RdE w' r q x e := h.fr hf hS hN
set_option maxHeartbeats 4000000 in
set_option maxRecDepth 100000 in
theorem from_ok (pa N : Nat) (t : Tr) (r q x : Value) (e : Ent) (w : World) (hT : Tab w N pa t) (hNw : N ≤ w.heap.size) (hok : ∀ e ∈ t.list, checkL e = 0) (hs : t.size ≤ 400) (hsrt : Srt t.list) (hr : RdE w r q x e) (f1 : e.row.length ≤ 140737488351232) (f2 : e.qual.length ≤ 140737488351232) (f3 : e.value.length ≤ 140737488351232) :
    Calls Try.prog 9 #[.pointer (some ⟨pa, 0, none⟩), .agg (entCells r q x e)] w (OutL w (fromL e t.list)) := by
  obtain ⟨⟨v, n, B0, hV0, ht, _, _⟩, hpa⟩ := hT
  have hVb := Var.new w (entCells r q x e) 25
  have hEb := (Ext.refl w).alloc (.cells (entCells r q x e) 25)
  unfold entCells at hVb hEb
  obtain ⟨X0, hX0⟩ : ∃ X0, w.alloc (.cells #[r, .int .i64 e.fam, q, .int .i64 e.ts, .int .i64 e.seq, .int .i64 e.kind, x] 25) = X0 := ⟨_, rfl⟩
  have hX0s : X0.heap.size = w.heap.size + 1 := by rw [← hX0]; simp
  rw [hX0] at hVb hEb
  have hVl := Var.new X0 #[.slice none 0 0] 22
  have hE0 := (Ext.refl X0).alloc (.cells #[.slice none 0 0] 22)
  obtain ⟨X, hX⟩ : ∃ X, X0.alloc (.cells #[.slice none 0 0] 22) = X := ⟨_, rfl⟩
  rw [hX] at hVl hE0
  rw [hX0s] at hVl
  have hE := hEb.trans hE0
  have hXs : w.heap.size + 1 < X.heap.size := hVl.lt
  have hcb := (hVb.ext hE0).cell
  have HA : Hid (CallsIn Fence.wide 9 Try.prog 19 #[.pointer (some ⟨pa, 0, none⟩), .agg (entCells r q x e)] X _) := Lib.hid (callsIn_wide.2 (From_ok pa r q x e X (hr.ext hE) f1 f2 f3))
  unfold entCells at HA ⊢
  refine callsIn_wide (n := 10).1 ?_
  refine callsIn_of_wp_marks Try.func9 rfl trivial ?_ rfl
  simp only [Try.ntmps9, List.size_toArray, List.length_cons, List.length_nil, Nat.reduceAdd, Nat.reduceSub, Array.replicate_succ, Array.replicate_zero, List.push_toArray, List.append_toArray, List.nil_append, List.cons_append]
  gi_wp2_with (refine ⟨trivial, ?_⟩; gi_at_call 19; refine HA.out.mono ?_; rintro e0 w2 ⟨ko, kt, r', q', x', rfl, g1, gk1, gk2, gk3, g3, g4, gV, gr, gf⟩)
  clear hX hX0
  have hEw2 : Ext w w2 := hE.trans g1
  have hV2 := hVl.ext g1
  have hg1 := g1.size
  have hseq := behind_from kt (kt + 1) pa (w.heap.size + 1) N ko w w2 t (fun y => decide (compareL y e < 0)) hEw2 ⟨by omega, by omega⟩ ⟨by omega, by omega⟩ ⟨by omega, by omega⟩ hV0.lt g3 g4 v (by rw [hV0.cell]; rfl) ht hok
    (fun W' hF r1 q1 x1 e1 hr1 => from1_ok r1 q1 x1 r' q' x' e1 e ko W' (gV.fr hF (by omega)) hr1 (RdE.offB gr hF (fun b hb => by subst hb; exact hXs) gf))
  rw [listT_from _ _ hsrt] at hseq
  have hlen : (fromL e t.list).length ≤ 400 := by
    have h1 : (fromL e t.list).length ≤ t.list.length := (List.dropWhile_sublist _).length_le
    rw [Tr.size_list] at h1; omega
  refine range_law (gf := 46) (lb := #[.pointer (some ⟨kt, 0, none⟩), .pointer (some ⟨kt + 1, 0, none⟩)]) (bl := w.heap.size + 1) rfl (enters_of Try.func46 (by kernel_rfl) rfl) rfl (by omega) hseq
    (fun B is W => LJ w2 (w.heap.size + 1) B is W) (fun B is => LJ.firm w2 (w.heap.size + 1) B is) ?start
    (fun i a' W => ∃ bx, Var W bx 25 (entCells i.r i.q i.x i.e) ∧ bx ≠ w.heap.size + 1 ∧ a' = { tmps := #[.pointer (some ⟨pa, 0, none⟩), .agg #[r, .int .i64 e.fam, q, .int .i64 e.ts, .int .i64 e.seq, .int .i64 e.kind, x], undef, .pointer (some ⟨w.heap.size, 0, none⟩), .slice none 0 0, .pointer (some ⟨w.heap.size + 1, 0, none⟩), .pointer (some ⟨bx, 0, none⟩), .pointer (some ⟨pa, 0, none⟩), .agg #[r, .int .i64 e.fam, q, .int .i64 e.ts, .int .i64 e.seq, .int .i64 e.kind, x], .func (.func 46) #[] #[.pointer (some ⟨kt, 0, none⟩), .pointer (some ⟨kt + 1, 0, none⟩)], .agg (entCells i.r i.q i.x i.e), undef, undef, undef, undef, undef], defers := [] })
    (fun i a' W W' l _ h hb hf => by obtain ⟨bx, h1, h2, h3⟩ := h; exact ⟨bx, h1.bare hb hf, h2, h3⟩) ?assign ?body ?done
  case start =>
    intro W' h
    have h1 := h.size
    exact ⟨⟨_, hV2.ext h, Ow.nil _ _ _, From.nil _ _ _, by simp [strs]⟩, by simp, by simp [strs], by simp [strs], Fr.ext h _, h1, Nat.le_refl _⟩
  case assign =>
    rintro l ⟨ir, iq, ix, ie⟩ W K hWs hoi hK
    dsimp only at hoi hK ⊢
    obtain ⟨A1, d1, rfl, -⟩ := hoi.row.rd.shape
    obtain ⟨A2, d2, rfl, -⟩ := hoi.qual.rd.shape
    obtain ⟨A3, d3, rfl, -⟩ := hoi.value.rd.shape
    clear hoi
    have hVz := Var.new W #[.slice none 0 0, .int .i64 0, .slice none 0 0, .int .i64 0, .int .i64 0, .int .i64 0, .slice none 0 0] 25
    have hEz := (Ext.refl W).alloc (.cells #[.slice none 0 0, .int .i64 0, .slice none 0 0, .int .i64 0, .int .i64 0, .int .i64 0, .slice none 0 0] 25)
    obtain ⟨Y, hY⟩ : ∃ Y, W.alloc (.cells #[.slice none 0 0, .int .i64 0, .slice none 0 0, .int .i64 0, .int .i64 0, .int .i64 0, .slice none 0 0] 25) = Y := ⟨_, rfl⟩
    rw [hY] at hVz hEz
    have hcu := hVz.cell
    have hzu := hVz.frozen
    obtain ⟨y9, hy9, hV9, hg9⟩ := store7 hVz rfl (.slice A1 ie.row.length d1) (.int .i64 ie.fam) (.slice A2 ie.qual.length d2) (.int .i64 ie.ts) (.int .i64 ie.seq) (.int .i64 ie.kind) (.slice A3 ie.value.length d3)
    have e9 : Ext W y9 := hEz.put hg9 (Nat.le_refl _)
    have HK := Lib.hid hK
    have HV9 := Lib.hid hV9
    clear hK hV9
    simp only [entCells]
    gi_wp2
    exact HK.out _ _ e9 ⟨W.heap.size, HV9.out, by omega, rfl⟩
  case body =>
    rintro l B pre i W0 W a' hlw hj hb hf ⟨bx, hbx, hbn, rfl⟩ ho hfr hpre
    obtain ⟨v, h1, h2, h3, h4⟩ := hj.ex
    obtain ⟨A, c, rfl, -⟩ := Ow.shape h2
    obtain ⟨ir, iq, ix, ie⟩ := i
    dsimp only at hbx ho hfr hpre ⊢
    obtain ⟨A1, d1, rfl, -⟩ := ho.row.rd.shape
    obtain ⟨A2, d2, rfl, -⟩ := ho.qual.rd.shape
    obtain ⟨A3, d3, rfl, -⟩ := ho.value.rd.shape
    have hn : pre.length + 1 ≤ 400 := by
      have h := hpre.length_le
      simp only [List.length_append, List.length_map, List.length_cons, List.length_nil] at h
      omega
    have hv1 := h1.bare hb hf
    have hrow1 := h2.bare hb hf
    simp only [entCells] at hbx ⊢
    have hcb := hbx.cell
    have hcl := hv1.cell
    have hE3 := (Ext.refl W).alloc (.cells #[.slice A1 ie.row.length d1, .int .i64 ie.fam, .slice A2 ie.qual.length d2, .int .i64 ie.ts, .int .i64 ie.seq, .int .i64 ie.kind, .slice A3 ie.value.length d3] 25)
    have hrd : Rd (W.alloc (.cells #[.slice A1 ie.row.length d1, .int .i64 ie.fam, .slice A2 ie.qual.length d2, .int .i64 ie.ts, .int .i64 ie.seq, .int .i64 ie.kind, .slice A3 ie.value.length d3] 25)) (.slice (some ⟨W.heap.size, 0, none⟩) 1 1) 1 7 [.slice A1 ie.row.length d1, .int .i64 ie.fam, .slice A2 ie.qual.length d2, .int .i64 ie.ts, .int .i64 ie.seq, .int .i64 ie.kind, .slice A3 ie.value.length d3] := Rd.lit W #[.slice A1 ie.row.length d1, .int .i64 ie.fam, .slice A2 ie.qual.length d2, .int .i64 ie.ts, .int .i64 ie.seq, .int .i64 ie.kind, .slice A3 ie.value.length d3] 25 1 7 rfl
    obtain ⟨Z, hZ⟩ : ∃ Z, W.alloc (.cells #[.slice A1 ie.row.length d1, .int .i64 ie.fam, .slice A2 ie.qual.length d2, .int .i64 ie.ts, .int .i64 ie.seq, .int .i64 ie.kind, .slice A3 ie.value.length d3] 25) = Z := ⟨_, rfl⟩
    rw [hZ] at hE3 hrd
    have hrow3 := hrow1.ext hE3
    have hvZ := hv1.ext hE3
    have HJ := Lib.hid hj
    have H1 := Lib.hid h1
    have H2 := Lib.hid h2
    have H3 := Lib.hid h3
    have H4 := Lib.hid h4
    have HB := Lib.hid hb
    have HF := Lib.hid hf
    have HO := Lib.hid ho
    have HFR := Lib.hid hfr
    have HR3 := Lib.hid hrow3
    have HRD := Lib.hid hrd
    have HE3 := Lib.hid hE3
    have HVZ := Lib.hid hvZ
    have hbB := hj.base.1
    clear hj h1 h2 h3 h4 hb hf ho hfr hrow1 hrow3 hrd hv1 hpre hbx hE3 hvZ
    gi_wp2_with (gi_at_builtin; refine wpIn_appE rfl (.tmp 11) (.tmp 13) rfl rfl rfl HR3.out HRD.out (by simp [Value.oneCell']) (by omega) ?_; intro v' w3 ho3 hg3 hat3; obtain ⟨A9, c9, rfl, -⟩ := Ow.shape ho3; have hv3 := HVZ.out.grown hg3 (fun e => by have := H3.out _ e; omega); have hc3 := hv3.cell; have hz3 := hv3.frozen)
    exact LJ.next (i := ⟨.slice A1 ie.row.length d1, .slice A2 ie.qual.length d2, .slice A3 ie.value.length d3, ie⟩) (by omega) hlw H1.out H2.out H3.out H4.out HJ.out HB.out HF.out HO.out HFR.out HE3.out ho3 hg3 hat3
  case done =>
    intro D B is W hD hj hes hD2
    obtain ⟨v, h1, h2, h3, h4⟩ := hj.ex
    obtain ⟨A, c, rfl, -⟩ := Ow.shape h2
    have hc1 := h1.cell
    have HF := Lib.hid (LJ.toLL (LJ.firm w2 (w.heap.size + 1) B is W (W.putObj D (.deferred none)) D hD hj ⟨_, hD2, rfl⟩ (Fr.putObj _ _ _)) hEw2 (Nat.le_succ _) (h1.bare ⟨_, hD2, rfl⟩ (Fr.putObj _ _ _)))
    have HES := Lib.hid hes
    clear hj h1 h2 h3 h4 hes
    gi_wp2
    refine ⟨by simp, .inl ⟨_, _, rfl, run_takeDeferred hD2, ?_⟩⟩
    exact ⟨_, results_tmp rfl _ _ _, .slice A is.length c, is, rfl, HF.out, HES.out⟩
end Go.Proofs.Ytckhefkedkipeaa

/- A range over a function whose rounds are handed entries in new memory: the law for its caller. -/
import Derived.Test.YtckhefkedkipeaaMAdd2
import Derived.RangeFuncNested
import Derived.RangeFuncBound
import Derived.RangeFuncCalls
import Derived.RangeFuncLeaves
import Derived.OwnWalkIn
import Derived.TacticsInMore
import Derived.LoopNIn
import Derived.LoopIn
namespace Go.Proofs.Ytckhefkedkipeaa
open Go.RowKit
set_option linter.unusedVariables false

/-- An entry that a round is handed. -/
structure Itm where
  r : Value
  q : Value
  x : Value
  e : Ent
/-- A block that holds no cells. -/
def Bare (W : World) (k : Nat) : Prop := ∃ o, W.heap[k]? = some o ∧ o.isCells = false
theorem Var.bare {w w' : World} {b T l : Nat} {cs : Array Value} (h : Var w b T cs) (hl : Bare w l) (hf : Fr (fun k => k = l) w w') : Var w' b T cs :=
  h.fr hf fun e => by
    subst e
    obtain ⟨o, ho, hc⟩ := hl
    have h' : w.heap[b]? = some (.cells cs T (0, 0)) := h
    rw [h'] at ho
    cases ho
    simp [Obj.isCells] at hc
theorem Ow.bare {w w' : World} {T sz l n : Nat} {v : Value} {xs : List Value} (h : Ow w T sz v n xs) (hl : Bare w l) (hf : Fr (fun k => k = l) w w') : Ow w' T sz v n xs := by
  refine h.fr hf fun k hk e => ?_
  subst e
  rcases h.2 with ⟨rfl, _⟩ | ⟨g, cap, cur, rfl, hg, _⟩
  · simp [Value.ownBlock] at hk
  · simp [Value.ownBlock] at hk
    subst hk
    obtain ⟨o, ho, hc⟩ := hl
    rw [hg] at ho
    cases ho
    simp [Obj.isCells] at hc
theorem OwE.bare {w w' : World} {l : Nat} {r q x : Value} {e : Ent} (h : OwE w r q x e) (hl : Bare w l) (hf : Fr (fun k => k = l) w w') : OwE w' r q x e :=
  ⟨Ow.bare h.row hl hf, Ow.bare h.qual hl hf, Ow.bare h.value hl hf, h.rq, h.rx, h.qx⟩
theorem Fr.putObj (W : World) (l : Nat) (o : Obj) : Fr (fun k => k = l) W (W.putObj l o) := ⟨rfl, rfl, rfl, by simp, fun k _ hn => World.putObj_heap_other hn⟩
/-- What stands, whatever becomes of a block from n0 on that holds no cells. -/
def Firm (n0 : Nat) (J : World → Prop) : Prop := ∀ W W' l, n0 ≤ l → J W → Bare W l → Fr (fun k => k = l) W W' → J W'

/-- What the loop promises at each call of yield. -/
def YieldOk (m l bl : Nat) (es : List Ent) (J : Nat → List Itm → World → Prop) : Prop :=
  ∀ B pre (i : Itm) W0 W1, J B pre W0 → Ext W0 W1 → OwE W1 i.r i.q i.x i.e → FromE W0.heap.size i.r i.q i.x → (pre.map (·.e) ++ [i.e]) <+: es →
    YieldAt Fence.wide m Try.prog l #[.agg (entCells i.r i.q i.x i.e)] W1 fun e W' => e = .returned (.bool true) ∧ J B (pre ++ [i]) W' ∧ Fr (fun k => (k = bl ∨ k = l) ∨ B ≤ k) W1 W'
/-- An iterator that hands out the entries es, in order, each in new memory. -/
def SeqOk (gf : Nat) (lb : Array Value) (es : List Ent) (bl : Nat) (w : World) : Prop :=
  ∀ (m l : Nat) (J : Nat → List Itm → World → Prop) (W : World), Ext w W → w.heap.size ≤ l → l < W.heap.size → YieldOk m l bl es J → (∀ W', Ext W W' → J W'.heap.size [] W') →
    Calls Try.prog gf (#[.func (.yield l) #[] #[]] ++ lb) W fun e W' => (∃ v, e = .returned v) ∧ ∃ B is W0, J B is W0 ∧ Ext W0 W' ∧ is.map (·.e) = es

/-- How a round's body is left. -/
def roundEnd (J : World → Prop) (bl B : Nat) (W : World) : Exit → Act → World → Prop
  | .normal, _, W' => J W' ∧ Fr (fun k => k = bl ∨ B ≤ k) W W'
  | _, _, _ => False

theorem range_law {g : Operand} {ps : Array Tmp} {assign body : Code} {Q : Exit → Act → World → Prop} {a : Act} {w : World} {n gf bl : Nat} {lb : Array Value} {es : List Ent}
    (hg : a.eval g = .func (.func gf) #[] lb) (eg : ∀ args w, (callFunc gf args).run Try.prog w = .ok (.enter gf args) w) (hps : ps.size = 1) (hbl : bl < w.heap.size)
    (hseq : SeqOk gf lb es bl w) (J : Nat → List Itm → World → Prop) (hJ : ∀ B is, Firm w.heap.size (J B is)) (h0 : ∀ W', Ext w W' → J W'.heap.size [] W')
    (Ax : Itm → Act → World → Prop) (hAx : ∀ i a', Firm w.heap.size (Ax i a'))
    (hassign : ∀ (l : Nat) (i : Itm) (W : World) (K : Act → World → Prop), w.heap.size ≤ W.heap.size → OwE W i.r i.q i.x i.e → (∀ a' W', Ext W W' → Ax i a' W' → K a' W') →
      assign.wpIn (Fence.wide.inRound l) n Try.prog (Exit.then K (fun _ _ _ => False)) { tmps := (ps.zip #[.agg (entCells i.r i.q i.x i.e)]).foldl (fun t (p, v) => t.setIfInBounds p v) a.tmps, defers := [] } W)
    (hbody : ∀ (l B : Nat) (pre : List Itm) (i : Itm) (W0 W : World) (a' : Act), w.heap.size ≤ l → J B pre W0 → Bare W0 l → Fr (fun k => k = l) W0 W → Ax i a' W → OwE W i.r i.q i.x i.e → FromE W0.heap.size i.r i.q i.x → (pre.map (·.e) ++ [i.e]) <+: es →
      body.wpIn (Fence.wide.inRound l) n Try.prog (roundEnd (J B (pre ++ [i])) bl B W) a' W)
    (hdone : ∀ (D B : Nat) (is : List Itm) (W : World), w.heap.size ≤ D → J B is W → is.map (·.e) = es → W.heap[D]? = some (.deferred (some [])) → Q .normal { a with defers := { target := .collected D, args := #[] } :: a.defers } W) :
    (Code.rangeFunc g ps assign body).wpIn Fence.wide n Try.prog Q a w := by
  refine wpIn_rangeFunc fun fn hfn => ?_
  obtain ⟨rc, hrc⟩ : ∃ rc : LoopState → Option Code → Loop, rc = fun st pe => { state := st, pending := pe, fn, tmps := a.tmps, params := ps, assign, body, defers := w.heap.size } := ⟨_, rfl⟩
  obtain ⟨W1, hW1⟩ : ∃ W1, (w.alloc (.deferred (some []))).alloc (.loop (rc .ready none)) = W1 := ⟨_, rfl⟩
  have hE1 : Ext w W1 := by rw [← hW1]; exact ((Ext.refl w).alloc _).alloc _
  have hL1 : W1.heap[w.heap.size + 1]? = some (.loop (rc .ready none)) := by
    have h := World.alloc_heap_new (w.alloc (.deferred (some []))) (.loop (rc .ready none))
    rw [hW1, World.size_alloc] at h; exact h
  have hD1 : W1.heap[w.heap.size]? = some (.deferred (some [])) := by
    have h := World.alloc_heap_new w (.deferred (some []))
    have h2 := ((Ext.refl (w.alloc (.deferred (some [])))).alloc (.loop (rc .ready none))).block (k := w.heap.size) (by simp)
    rw [hW1] at h2
    exact h2.trans h
  have hsz : W1.heap.size = w.heap.size + 2 := by rw [← hW1]; simp
  refine ⟨w.heap.size + 1, [{ target := .collected w.heap.size, args := #[] }], W1, { target := .fn (.func gf) lb, args := #[.func (.yield (w.heap.size + 1)) #[] #[]] }, W1, gf,
    #[.func (.yield (w.heap.size + 1)) #[] #[]] ++ lb, W1, ?_, ?_, fun _ _ => trivial, ?_, fun h => by simp [Fence.wide] at h, ?_⟩
  · rw [← hW1, hrc]; exact run_enterLoop_outer _ _ _ _ _
  · simp only [resolve, hg]
    simp [go_sem]
  · simp [invoke, go_sem, eg]
  clear hW1
  refine callsIn_wide.2 ((hseq n (w.heap.size + 1) (fun B pre W => J B pre W ∧ W.heap[w.heap.size + 1]? = some (.loop (rc .ready none)) ∧ W.heap[w.heap.size]? = some (.deferred (some [])) ∧ w.heap.size + 1 < B) W1 hE1 (by omega) (by omega) ?_ ?_).mono ?_)
  · rintro B pre i W0 W2 ⟨hj, hl, hd, hB⟩ hE ho hfr hpre
    have hlt : w.heap.size + 1 < W0.heap.size := (Array.getElem?_eq_some_iff.1 hl).1
    have hl2 := (hE.block hlt).trans hl
    have hd2 := (hE.block (k := w.heap.size) (by omega)).trans hd
    have hy := run_yield (P := Try.prog) (args := #[.agg (entCells i.r i.q i.x i.e)]) hl2 (by rw [hrc]; simp [hps])
    refine ⟨fn, _, assign, body, by rw [hrc] at hy; exact hy, roundIn_of_wpIn hfn (hassign _ i W2 _ (Nat.le_trans (by omega) hE.size) ho fun a' Wx hEx hax => ?_)⟩
    have hlx := (hEx.block (Nat.lt_of_lt_of_le hlt hE.size)).trans hl2
    have hdx := (hEx.block (k := w.heap.size) (Nat.lt_of_lt_of_le (by omega) hE.size)).trans hd2
    have hltx : w.heap.size + 1 < Wx.heap.size := (Array.getElem?_eq_some_iff.1 hlx).1
    refine ⟨_, run_beginRound hlx (by rw [hrc]), ?_⟩
    obtain ⟨Wy, hWy⟩ : ∃ Wy, Wx.putObj (w.heap.size + 1) (.loop { rc .ready none with state := .busy }) = Wy := ⟨_, rfl⟩
    have hFxy : Fr (fun k => k = w.heap.size + 1) Wx Wy := by rw [← hWy]; exact Fr.putObj _ _ _
    have hly : Wy.heap[w.heap.size + 1]? = some (.loop { rc .ready none with state := .busy }) := by rw [← hWy]; exact World.putObj_heap_same hltx
    have hdy : Wy.heap[w.heap.size]? = some (.deferred (some [])) := (hFxy.block _ (by omega) (by omega)).trans hdx
    rw [hWy]
    clear hWy
    have hb := hbody (w.heap.size + 1) B pre i W0 Wy a' (by omega) hj ⟨_, hl, rfl⟩ ((Fr.ext (hE.trans hEx) _).trans hFxy) (hAx i a' Wx Wy _ (by omega) hax ⟨_, hlx, rfl⟩ hFxy) (OwE.bare (ho.ext hEx) ⟨_, hlx, rfl⟩ hFxy) hfr hpre
    refine wpIn_mono hb ?_
    rintro e a3 W3 hp
    cases e with
    | normal =>
      obtain ⟨hj3, hf3⟩ := hp
      have hly' : w.heap.size + 1 < Wy.heap.size := (Array.getElem?_eq_some_iff.1 hly).1
      have hl3 := (hf3.block _ hly' (by omega)).trans hly
      have hd3 := (hf3.block w.heap.size (by omega) (by omega)).trans hdy
      have hr3 := run_endRound (P := Try.prog) none hl3
      refine ⟨_, _, hr3, rfl, ⟨hJ _ _ _ _ _ (by omega) hj3 ⟨_, hl3, rfl⟩ (Fr.putObj _ _ _), ?_, ?_, hB⟩, ?_⟩
      · have h := World.putObj_heap_same (w := W3) (o := .loop { rc .ready none with state := .ready, pending := none }) (Array.getElem?_eq_some_iff.1 hl3).1
        rw [hrc] at h ⊢
        exact h
      · exact (World.putObj_heap_other (by omega)).trans hd3
      · have h1 : Fr (fun k => (k = bl ∨ k = w.heap.size + 1) ∨ B ≤ k) W2 Wy := (Fr.ext hEx _).trans (hFxy.mono fun k _ hk => .inl (.inr hk))
        have h2 : Fr (fun k => (k = bl ∨ k = w.heap.size + 1) ∨ B ≤ k) Wy W3 := hf3.mono fun k _ hk => hk.elim (fun h => .inl (.inl h)) .inr
        exact (h1.trans h2).trans ((Fr.putObj _ _ _).mono fun k _ hk => .inl (.inr hk))
    | ret => exact hp.elim
    | exit id => exact hp.elim
    | goto t => exact hp.elim
    | panic ch => exact hp.elim
    | outgrown => exact hp.elim
  · intro W' hE'
    have h1 := hE'.size
    exact ⟨h0 W' (hE1.trans hE'), (hE'.block (by omega)).trans hL1, (hE'.block (by omega)).trans hD1, by omega⟩
  · rintro e W2 ⟨⟨v, rfl⟩, B, is, W0, ⟨hj, hl, hd, hB⟩, hE, hes⟩
    have hlt : w.heap.size + 1 < W0.heap.size := (Array.getElem?_eq_some_iff.1 hl).1
    have hl2 := (hE.block hlt).trans hl
    have hd2 := (hE.block (k := w.heap.size) (by omega)).trans hd
    have hr := run_endLoop (P := Try.prog) hl2 (by rw [hrc]; simp)
    have hpn : (rc .ready none).pending = none := by rw [hrc]
    rw [hpn] at hr
    refine ⟨none, _, hr, hdone w.heap.size B is _ (Nat.le_refl _) (hJ B is W0 _ (w.heap.size + 1) (by omega) hj ⟨_, hl, rfl⟩ ((Fr.ext hE _).trans (Fr.putObj _ _ _))) hes ((World.putObj_heap_other (by omega)).trans hd2)⟩
end Go.Proofs.Ytckhefkedkipeaa

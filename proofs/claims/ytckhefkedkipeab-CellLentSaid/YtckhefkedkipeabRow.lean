/- CellLent, whatever the two entries, the bytes and the place are, returns true, and its arguments read as they did. -/
import Derived.Test.YtckhefkedkipeabMain
import Derived.Test.YtckhefkedkipeabRows
import Derived.ProofKit
import Derived.SizedLaws
import Derived.OpenShut
namespace Go.Proofs.Ytckhefkedkipeab
open Go.ChangeShapes Go.WideShapes Go.ChangeAt Go.RowKit

theorem ownGodebug : ownKnob Try.prog.godebug = none := by kernel_rfl
theorem laidAll : laidOutB Try.prog = true := by kernel_rfl

/-- A byte slice that came in: its bytes; how much it weighs. -/
theorem bytes_of {H : Type} {enc : TypeId × Value → H} {w : World} {fuel : Nat} {v : Value} {y : DataW H × List MemPlace} (hf : DataW.trod enc Try.prog w 0 (fun _ => true) true fuel 22 [v] = some y) :
    ∃ l, RdB w v l ∧ ((y.1 = .nil ∧ l = []) ∨ ∃ el sp, y.1 = .slice el sp ∧ l.length ≤ el.length + sp.length) := by
  rcases open_ints Try.underlying22 Try.underlying5 (by kernel_rfl) hf with ⟨hcs, hy⟩ | ⟨x, n, c, zs, hcs, _, hl, hm, hz, hy, hcell, hwz⟩
  · simp only [List.cons.injEq, and_true] at hcs
    subst hcs
    exact ⟨[], RdB.nil w, .inl ⟨by rw [hy], rfl⟩⟩
  · simp only [List.cons.injEq, and_true] at hcs
    subst hcs
    have hzc : zs.length = c := by simpa using hz
    have hln : (zs.take n).length = n := by rw [List.length_take]; omega
    refine ⟨zs.take n, ?_, .inr ⟨_, _, by rw [hy], ?_⟩⟩
    · have h := RdB.of (w := w) (ad := x) (l := zs.take n) (c := c) (fun j hj => ?_) (by omega)
      · rw [hln] at h; exact h
      · rw [hcell j (by omega)]
        have e : gt (zs.take n) j = zs.getD j 0 := by
          have : j < n := by omega
          simp [gt, List.getD_eq_getElem?_getD, this]
        rw [e]
    · simp only [lits, List.length_map, List.length_take, List.length_drop]; omega

theorem len7 {α : Type} {l : List α} (h : l.length = 7) : ∃ a b c d e f g, l = [a, b, c, d, e, f, g] := by
  match l, h with
  | [a, b, c, d, e, f, g], _ => exact ⟨a, b, c, d, e, f, g, rfl⟩
theorem arr7 {α : Type} {cs : Array α} (h : cs.size = 7) : ∃ a b c d e f g, cs = #[a, b, c, d, e, f, g] := by
  obtain ⟨l⟩ := cs
  obtain ⟨a, b, c, d, e, f, g, rfl⟩ := len7 (l := l) h
  exact ⟨a, b, c, d, e, f, g, rfl⟩
theorem isI64_of_wf {n : Int} (h : (Lit.int .i64 n).wf = true) : isI64 n := by
  have := bounds_i64 h
  unfold isI64
  omega
/-- A slice that was weighed. -/
theorem weighed {H : Type} {ds : List (DataW H)} {ts : List TypeId} {parts : List (DataW H)} {j i : Nat} {el sp : List (DataW H)} (hsz : (DataW.weightsEach Try.prog ts ds).all (· ≤ reachBytes) = true)
    (ht : ts[j]? = some 24) (hd : ds[j]? = some (.agg parts)) (hi : [22, 3, 22, 3, 3, 3, 22][i]? = some 22) (hp : parts[i]? = some (.slice el sp)) : el.length + sp.length ≤ 140737488351232 := by
  have hb : Try.prog.bytesOf 5 = 1 := by kernel_rfl
  have h1 : (el.length + sp.length) * 1 ∈ (DataW.slice el sp).weights Try.prog 22 := by simp [DataW.weights, Try.underlying22, hb]
  have h2 := DataW.weights_mem_each (P := Try.prog) hi hp _ h1
  have h3 : (el.length + sp.length) * 1 ∈ (DataW.agg parts).weights Try.prog 24 := by
    simp only [DataW.weights, Try.underlying24]
    exact h2
  have h4 := List.all_eq_true.1 hsz _ (DataW.weights_mem_each ht hd _ h3)
  simp [reachBytes] at h4
  omega
/-- An entry that came in. -/
theorem open_ent {H : Type} {enc : TypeId × Value → H} {w : World} {r : Reach} {b0 : Nat} {v : Value} {d : DataW H} {p : List MemPlace} {ts : List TypeId} {ds : List (DataW H)} {j : Nat} (hv : Value.okWide Try.prog w r b0 24 v)
    (h : DataW.Trod enc Try.prog w 0 (fun _ => true) true 24 v d p) (hsz : (DataW.weightsEach Try.prog ts ds).all (· ≤ reachBytes) = true) (ht : ts[j]? = some 24) (hd : ds[j]? = some d) :
    ∃ r1 q1 x1 e, v = .agg (entCells r1 q1 x1 e) ∧ RdE w r1 q1 x1 e ∧ e.Fits := by
  have hC : Try.prog.cellsOf 24 = 7 := by kernel_rfl
  have h22 : Try.prog.cellsOf 22 = 1 := by kernel_rfl
  have h3 : Try.prog.cellsOf 3 = 1 := by kernel_rfl
  obtain ⟨cs, rfl, hs⟩ := okWide_struct Try.underlying24 hv
  obtain ⟨c0, c1, c2, c3, c4, c5, c6, rfl⟩ := arr7 (hs.trans hC)
  obtain ⟨fuel, hf⟩ := h
  obtain ⟨xs, n, _, hx, _, hlen, hfl⟩ := DataW.trod_struct Try.underlying24 hf
  obtain ⟨y0, y1, y2, y3, y4, y5, y6, rfl⟩ := len7 (l := xs) hlen
  have t0 : DataW.trod enc Try.prog w 0 (fun _ => true) true n 22 [c0] = some y0 := by simpa [Value.cells, h22, h3] using hfl 0 _ rfl
  have t1 : DataW.trod enc Try.prog w 0 (fun _ => true) true n 3 [c1] = some y1 := by simpa [Value.cells, h22, h3] using hfl 1 _ rfl
  have t2 : DataW.trod enc Try.prog w 0 (fun _ => true) true n 22 [c2] = some y2 := by simpa [Value.cells, h22, h3] using hfl 2 _ rfl
  have t3 : DataW.trod enc Try.prog w 0 (fun _ => true) true n 3 [c3] = some y3 := by simpa [Value.cells, h22, h3] using hfl 3 _ rfl
  have t4 : DataW.trod enc Try.prog w 0 (fun _ => true) true n 3 [c4] = some y4 := by simpa [Value.cells, h22, h3] using hfl 4 _ rfl
  have t5 : DataW.trod enc Try.prog w 0 (fun _ => true) true n 3 [c5] = some y5 := by simpa [Value.cells, h22, h3] using hfl 5 _ rfl
  have t6 : DataW.trod enc Try.prog w 0 (fun _ => true) true n 22 [c6] = some y6 := by simpa [Value.cells, h22, h3] using hfl 6 _ rfl
  simp only [Prod.mk.injEq] at hx
  obtain ⟨hd1, _⟩ := hx
  obtain ⟨l0, r0, k0⟩ := bytes_of t0
  obtain ⟨l2, r2, k2⟩ := bytes_of t2
  obtain ⟨l6, r6, k6⟩ := bytes_of t6
  obtain ⟨n1, e1, _, w1⟩ := DataW.trod_int Try.underlying3 t1
  obtain ⟨n3, e3, _, w3⟩ := DataW.trod_int Try.underlying3 t3
  obtain ⟨n4, e4, _, w4⟩ := DataW.trod_int Try.underlying3 t4
  obtain ⟨n5, e5, _, w5⟩ := DataW.trod_int Try.underlying3 t5
  simp only [List.cons.injEq, and_true] at e1 e3 e4 e5
  subst e1 e3 e4 e5
  have hle : ∀ (i : Nat) (y : DataW H × List MemPlace) (l : List Int), [22, 3, 22, 3, 3, 3, 22][i]? = some 22 → ([y0, y1, y2, y3, y4, y5, y6].map (·.1))[i]? = some y.1 → ((y.1 = .nil ∧ l = []) ∨ ∃ el sp, y.1 = .slice el sp ∧ l.length ≤ el.length + sp.length) → l.length ≤ 140737488351232 := by
    intro i y l hi hp hk
    rcases hk with ⟨_, rfl⟩ | ⟨el, sp, e, hk⟩
    · simp
    · rw [e] at hp
      have := weighed (i := i) hsz ht (by rw [hd, hd1]) hi hp
      omega
  exact ⟨c0, c2, c6, ⟨l0, n1, l2, n3, n4, n5, l6⟩, rfl, ⟨r0, r2, r6⟩, ⟨isI64_of_wf w1, isI64_of_wf w3, isI64_of_wf w4, isI64_of_wf w5, hle 0 y0 l0 rfl rfl k0, hle 2 y2 l2 rfl rfl k2, hle 6 y6 l6 rfl rfl k6⟩⟩

set_option maxRecDepth 100000 in
theorem cellLent_lifted (os : Os) (started : os.Started) (H : Type) (enc : TypeId × Value → H) :
    ReturnsInHanded {} Try.checked os 3 .any (Rows.cellLentSpec.pre6 enc Try.prog Try.f3 Rows.cellLentRow.domain false) (Rows.cellLentSpec.post enc Try.prog Try.f3 false true false false) := by
  refine returnsInHanded_of_change_sized (C := Try.checked) ownGodebug started (by kernel_rfl) Try.func3
    (ChangeSpec.witness6 (enc := enc) (C := Try.checked) false ⟨#[], #[.agg #[.slice none 0 0, .int .i64 0, .slice none 0 0, .int .i64 0, .int .i64 0, .int .i64 0, .slice none 0 0], .agg #[.slice none 0 0, .int .i64 0, .slice none 0 0, .int .i64 0, .int .i64 0, .int .i64 0, .slice none 0 0], .slice none 0 0, .int .i64 0], []⟩ 8 (by kernel_rfl) (by kernel_rfl) (by kernel_rfl) (by kernel_rfl)) ?_
  intro W base args ds gs before hval0 hW hcnd hsz0 _
  have hval : ∀ (j : Nat) t v, Try.f3.params[j]? = some t → args[j]? = some v → Value.okWide Try.prog W .any base t v := hval0
  have hsz : (DataW.weightsEach Try.prog (Try.f3.params.toList ++ Rows.cellLentSpec.plain.varTypes Try.prog) (ds ++ gs)).all (· ≤ reachBytes) = true := hsz0
  have hW' := hW
  obtain ⟨p, q, hA0, hV, rfl, hfz, hnd⟩ := hW
  have hA : DataW.TrodAll enc Try.prog W 0 (fun _ => true) true Try.f3.params.toList args.toList ds p := hA0
  rw [Try.params3] at hA hval hsz
  obtain ⟨v0, vs0, d0, ds0, p0, q0, hargs, rfl, rfl, h0, r0⟩ := trodAll_cons hA
  obtain ⟨v1, vs1, d1, ds1, p1, q1, rfl, rfl, rfl, h1, r1⟩ := trodAll_cons r0
  obtain ⟨v2, vs2, d2, ds2, p2, q2, rfl, rfl, rfl, h2, r2⟩ := trodAll_cons r1
  obtain ⟨v3, vs3, d3, ds3, p3, q3, rfl, rfl, rfl, h3, r3⟩ := trodAll_cons r2
  obtain ⟨rfl, rfl, rfl⟩ := trodAll_nil r3
  obtain rfl : args = #[v0, v1, v2, v3] := by cases args; simp_all
  obtain ⟨rfl, rfl⟩ := trodVars_none hV
  have k0 := h0
  have lt0 : ∀ x ∈ p0, x.block < W.heap.size := by obtain ⟨m, hm⟩ := k0; exact DataW.trod_lt m _ _ _ hm
  have k1 := h1
  have lt1 : ∀ x ∈ p1, x.block < W.heap.size := by obtain ⟨m, hm⟩ := k1; exact DataW.trod_lt m _ _ _ hm
  have k2 := h2
  have lt2 : ∀ x ∈ p2, x.block < W.heap.size := by obtain ⟨m, hm⟩ := k2; exact DataW.trod_lt m _ _ _ hm
  obtain ⟨ra, qa, xa, a, rfl, hra, hfa⟩ := open_ent (j := 0) (hval 0 24 v0 rfl rfl) h0 hsz rfl rfl
  obtain ⟨rb, qb, xb, b, rfl, hrb, hfb⟩ := open_ent (j := 1) (hval 1 24 v1 rfl rfl) h1 hsz rfl rfl
  obtain ⟨A2, n2, c2, rfl⟩ := okWide_slice Try.underlying22 (hval 2 22 v2 rfl rfl)
  obtain ⟨l, hl, hll⟩ : ∃ l, RdB W (.slice A2 n2 c2) l ∧ l.length ≤ 140737488351232 := by
    obtain ⟨fuel, hf⟩ := h2
    obtain ⟨l, hl, hk⟩ := bytes_of (v := .slice A2 n2 c2) (y := (d2, p2)) hf
    refine ⟨l, hl, ?_⟩
    rcases hk with ⟨_, rfl⟩ | ⟨el, sp, e, hk⟩
    · simp
    · simp only at e
      subst e
      have hb : Try.prog.bytesOf 5 = 1 := by kernel_rfl
      have := sized_slice hsz (j := 2) (t := 22) (e := 5) rfl rfl Try.underlying22
      rw [hb] at this
      simp [reachBytes] at this
      omega
  obtain ⟨i0, rfl, rfl, rfl, w3⟩ := open_int Try.underlying3 (hval 3 3 v3 rfl rfl) h3
  clear hA0 hval0
  refine (CellLent_ok ra qa xa rb qb xb (.slice A2 n2 c2) a b l i0 W hra hrb hl hfa hfb hll).mono fun e W' ⟨he, bel⟩ => ?_
  subst he
  exact ⟨_, rfl, _, _, _, [], _, [], hW', trodAll_mk1 (shut_bool Try.underlying4 _), (trodAll_cons_mk (Below.trod laidAll (by kernel_rfl) (of_decide_eq_true (by kernel_rfl)) k0 bel lt0) (trodAll_cons_mk (Below.trod laidAll (by kernel_rfl) (of_decide_eq_true (by kernel_rfl)) k1 bel lt1) (trodAll_cons_mk (Below.trod laidAll (by kernel_rfl) (of_decide_eq_true (by kernel_rfl)) k2 bel lt2) (trodAll_cons_mk (shut_int Try.underlying3 w3) trodAll_mk0)))), rfl, bel.frame _, fun h => by cases h⟩

/-- For every input: true, and the arguments read as they did. -/
theorem cellLent_holds : Rows.CellLentSaid :=
  OpenClaim.holds_of_wide 3 Try.f3 rfl rfl rfl rfl rfl rfl rfl ⟨rfl, rfl, rfl, rfl, rfl⟩ rfl rfl rfl rfl rfl (by kernel_rfl) Try.func3 (by kernel_rfl)
    (of_decide_eq_true (by kernel_rfl)) (by unfold Func.isWrapper; rw [if_neg (by decide +kernel)]; exact ⟨rfl, rfl⟩)
    (fun os started H enc _ => cellLent_lifted os started H enc)
end Go.Proofs.Ytckhefkedkipeab

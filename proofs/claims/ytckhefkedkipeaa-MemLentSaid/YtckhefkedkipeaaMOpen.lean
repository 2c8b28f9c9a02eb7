/- A list of entries that came in, and an entry that came in. -/
import Derived.Test.YtckhefkedkipeaaMRefA
import Derived.Test.YtckhefkedkipeaaRows
import Derived.ProofKit
import Derived.SizedLaws
import Derived.OpenShut
namespace Go.Proofs.Ytckhefkedkipeaa
open Go.ChangeShapes Go.WideShapes Go.ChangeAt Go.RowKit

theorem ownGodebug : ownKnob Try.prog.godebug = none := by kernel_rfl
theorem laidAll : laidOutB Try.prog = true := by kernel_rfl
theorem weights_mem_all {H : Type} {P : Program} {e : TypeId} : ∀ {ds : List (DataW H)} {d : DataW H}, d ∈ ds → ∀ n ∈ d.weights P e, n ∈ DataW.weightsAll P e ds
  | [], _, h, _, _ => by cases h
  | x :: ds, d, h, n, hn => by
    rw [DataW.weightsAll]
    rcases List.mem_cons.1 h with rfl | h
    · exact List.mem_append_left _ hn
    · exact List.mem_append_right _ (weights_mem_all h n hn)
/-- A byte slice that came in: its bytes; how much it weighs. -/
theorem bytes_of {H : Type} {enc : TypeId × Value → H} {w : World} {fuel : Nat} {v : Value} {y : DataW H × List MemPlace} (hf : DataW.trod enc Try.prog w 0 (fun _ => true) true fuel 23 [v] = some y) :
    ∃ l, RdB w v l ∧ (∀ b ∈ l, 0 ≤ b ∧ b ≤ 255) ∧ ((y.1 = .nil ∧ l = []) ∨ ∃ el sp, y.1 = .slice el sp ∧ l.length ≤ el.length + sp.length) := by
  rcases open_ints Try.underlying23 Try.underlying5 (by kernel_rfl) hf with ⟨hcs, hy⟩ | ⟨x, n, c, zs, hcs, _, hl, hm, hz, hy, hcell, hwz⟩
  · simp only [List.cons.injEq, and_true] at hcs
    subst hcs
    exact ⟨[], RdB.nil w, by simp, .inl ⟨by rw [hy], rfl⟩⟩
  · simp only [List.cons.injEq, and_true] at hcs
    subst hcs
    have hzc : zs.length = c := by simpa using hz
    have hln : (zs.take n).length = n := by rw [List.length_take]; omega
    refine ⟨zs.take n, ?_, ?_, .inr ⟨_, _, by rw [hy], ?_⟩⟩
    · have h := RdB.of (w := w) (ad := x) (l := zs.take n) (c := c) (fun j hj => ?_) (by omega)
      · rw [hln] at h; exact h
      · rw [hcell j (by omega)]
        have e : gt (zs.take n) j = zs.getD j 0 := by
          have : j < n := by omega
          simp [gt, List.getD_eq_getElem?_getD, this]
        rw [e]
    · intro b hb
      have h := hwz b (List.mem_of_mem_take hb)
      have := bounds_u8 h
      omega
    · simp only [lits, List.length_map, List.length_take, List.length_drop]; omega
theorem len7 {α : Type} {l : List α} (h : l.length = 7) : ∃ a b c d e f g, l = [a, b, c, d, e, f, g] := by
  match l, h with
  | [a, b, c, d, e, f, g], _ => exact ⟨a, b, c, d, e, f, g, rfl⟩
theorem arr7 {α : Type} {cs : Array α} (h : cs.size = 7) : ∃ a b c d e f g, cs = #[a, b, c, d, e, f, g] := by
  obtain ⟨l⟩ := cs
  obtain ⟨a, b, c, d, e, f, g, rfl⟩ := len7 (l := l) h
  exact ⟨a, b, c, d, e, f, g, rfl⟩
theorem isI64_of_wf {n : Int} (h : (Lit.int .i64 n).wf = true) : isI64 n := by
  have := bounds_i64 h
  unfold isI64
  omega
/-- An entry's cells, read as data. -/
theorem trod_ent {H : Type} {enc : TypeId × Value → H} {w : World} {fuel : Nat} {c0 c1 c2 c3 c4 c5 c6 : Value} {y : DataW H × List MemPlace} (hf : DataW.trod enc Try.prog w 0 (fun _ => true) true fuel 25 [c0, c1, c2, c3, c4, c5, c6] = some y)
    (hsz : (y.1.weights Try.prog 25).all (· ≤ reachBytes) = true) :
    ∃ e, c1 = .int .i64 e.fam ∧ c3 = .int .i64 e.ts ∧ c4 = .int .i64 e.seq ∧ c5 = .int .i64 e.kind ∧ RdE w c0 c2 c6 e ∧ e.Fits ∧ EOk e := by
  have h22 : Try.prog.cellsOf 23 = 1 := by kernel_rfl
  have h3 : Try.prog.cellsOf 3 = 1 := by kernel_rfl
  obtain ⟨xs, n, _, hx, _, hlen, hfl⟩ := DataW.trod_struct Try.underlying25 hf
  obtain ⟨y0, y1, y2, y3, y4, y5, y6, rfl⟩ := len7 (l := xs) hlen
  have t0 : DataW.trod enc Try.prog w 0 (fun _ => true) true n 23 [c0] = some y0 := by simpa [h22, h3] using hfl 0 _ rfl
  have t1 : DataW.trod enc Try.prog w 0 (fun _ => true) true n 3 [c1] = some y1 := by simpa [h22, h3] using hfl 1 _ rfl
  have t2 : DataW.trod enc Try.prog w 0 (fun _ => true) true n 23 [c2] = some y2 := by simpa [h22, h3] using hfl 2 _ rfl
  have t3 : DataW.trod enc Try.prog w 0 (fun _ => true) true n 3 [c3] = some y3 := by simpa [h22, h3] using hfl 3 _ rfl
  have t4 : DataW.trod enc Try.prog w 0 (fun _ => true) true n 3 [c4] = some y4 := by simpa [h22, h3] using hfl 4 _ rfl
  have t5 : DataW.trod enc Try.prog w 0 (fun _ => true) true n 3 [c5] = some y5 := by simpa [h22, h3] using hfl 5 _ rfl
  have t6 : DataW.trod enc Try.prog w 0 (fun _ => true) true n 23 [c6] = some y6 := by simpa [h22, h3] using hfl 6 _ rfl
  rw [hx] at hsz
  obtain ⟨l0, r0, b0, k0⟩ := bytes_of t0
  obtain ⟨l2, r2, b2, k2⟩ := bytes_of t2
  obtain ⟨l6, r6, b6, k6⟩ := bytes_of t6
  obtain ⟨n1, e1, _, w1⟩ := DataW.trod_int Try.underlying3 t1
  obtain ⟨n3, e3, _, w3⟩ := DataW.trod_int Try.underlying3 t3
  obtain ⟨n4, e4, _, w4⟩ := DataW.trod_int Try.underlying3 t4
  obtain ⟨n5, e5, _, w5⟩ := DataW.trod_int Try.underlying3 t5
  simp only [List.cons.injEq, and_true] at e1 e3 e4 e5
  subst e1 e3 e4 e5
  have hb1 : Try.prog.bytesOf 5 = 1 := by kernel_rfl
  have hle : ∀ (i : Nat) (z : DataW H × List MemPlace) (l : List Int), [23, 3, 23, 3, 3, 3, 23][i]? = some 23 → ([y0, y1, y2, y3, y4, y5, y6].map (·.1))[i]? = some z.1 → ((z.1 = .nil ∧ l = []) ∨ ∃ el sp, z.1 = .slice el sp ∧ l.length ≤ el.length + sp.length) → l.length ≤ 140737488351232 := by
    intro i z l hi hp hk
    rcases hk with ⟨_, rfl⟩ | ⟨el, sp, e, hk⟩
    · simp
    · have g1 : (el.length + sp.length) * 1 ∈ (DataW.slice el sp).weights Try.prog 23 := by simp [DataW.weights, Try.underlying23, hb1]
      rw [e] at hp
      have g2 := DataW.weights_mem_each (P := Try.prog) hi hp _ g1
      have g3 : (el.length + sp.length) * 1 ∈ (DataW.agg ([y0, y1, y2, y3, y4, y5, y6].map (·.1))).weights Try.prog 25 := by
        simp only [DataW.weights, Try.underlying25]
        exact g2
      have g4 := List.all_eq_true.1 hsz _ g3
      simp [reachBytes] at g4
      omega
  have f0 := hle 0 y0 l0 rfl rfl k0
  have f2 := hle 2 y2 l2 rfl rfl k2
  have f6 := hle 6 y6 l6 rfl rfl k6
  exact ⟨⟨l0, n1, l2, n3, n4, n5, l6⟩, rfl, rfl, rfl, rfl, ⟨r0, r2, r6⟩, ⟨isI64_of_wf w1, isI64_of_wf w3, isI64_of_wf w4, isI64_of_wf w5, f0, f2, f6⟩, ⟨⟨b0, b2, b6⟩, f0, f2, f6⟩⟩
/-- An entry that came in. -/
theorem open_ent {H : Type} {enc : TypeId × Value → H} {w : World} {r : Reach} {b0 : Nat} {v : Value} {d : DataW H} {p : List MemPlace} {ts : List TypeId} {ds : List (DataW H)} {j : Nat} (hv : Value.okWide Try.prog w r b0 25 v)
    (h : DataW.Trod enc Try.prog w 0 (fun _ => true) true 25 v d p) (hsz : (DataW.weightsEach Try.prog ts ds).all (· ≤ reachBytes) = true) (ht : ts[j]? = some 25) (hd : ds[j]? = some d) :
    ∃ r1 q1 x1 e, v = .agg (entCells r1 q1 x1 e) ∧ RdE w r1 q1 x1 e ∧ e.Fits ∧ EOk e := by
  have hC : Try.prog.cellsOf 25 = 7 := by kernel_rfl
  obtain ⟨cs, rfl, hs⟩ := okWide_struct Try.underlying25 hv
  obtain ⟨c0, c1, c2, c3, c4, c5, c6, rfl⟩ := arr7 (hs.trans hC)
  obtain ⟨fuel, hf⟩ := h
  obtain ⟨e, rfl, rfl, rfl, rfl, h1, h2, h3⟩ := trod_ent (y := (d, p)) hf (List.all_eq_true.2 fun n hn => List.all_eq_true.1 hsz n (DataW.weights_mem_each ht hd n hn))
  exact ⟨c0, c2, c6, e, rfl, h1, h2, h3⟩
/-- A list of entries that came in. -/
theorem open_list {H : Type} {enc : TypeId × Value → H} {w : World} {A : Option Addr} {n c : Nat} {d : DataW H} {p : List MemPlace} {ts : List TypeId} {ds : List (DataW H)} {j : Nat}
    (h : DataW.Trod enc Try.prog w 0 (fun _ => true) true 22 (.slice A n c) d p) (hsz : (DataW.weightsEach Try.prog ts ds).all (· ≤ reachBytes) = true) (ht : ts[j]? = some 22) (hd : ds[j]? = some d) :
    ∃ is, RL w 0 (.slice A n c) is ∧ (∀ i ∈ is, i.e.Fits ∧ EOk i.e) ∧ is.length ≤ 140737488351232 := by
  have hC : Try.prog.cellsOf 25 = 7 := by kernel_rfl
  have hB : Try.prog.bytesOf 25 = 104 := by kernel_rfl
  obtain ⟨fuel, hf⟩ := h
  rcases DataW.trod_slice Try.underlying22 hf with ⟨h0, _⟩ | ⟨a, len, cap, elems, rest, m, _, h0, hx, _, hl, hm, hlen, hel, _, _⟩
  · simp only [Value.cells, List.cons.injEq, and_true] at h0
    cases h0
    exact ⟨[], ⟨Rd.nil _ _, by simp, fun z hz => by simp [strs] at hz; subst hz; exact From.nil _ _ _⟩, by simp, by simp⟩
  · simp only [Value.cells, List.cons.injEq, and_true] at h0
    cases h0
    simp only [Prod.mk.injEq] at hx
    obtain ⟨rfl, _⟩ := hx
    have hw : ∀ y ∈ elems, (y.1.weights Try.prog 25).all (· ≤ reachBytes) = true := by
      intro y hy
      refine List.all_eq_true.2 fun k hk => List.all_eq_true.1 hsz k (DataW.weights_mem_each ht hd k ?_)
      simp only [DataW.weights, Try.underlying22]
      exact List.mem_cons_of_mem _ (List.mem_append_left _ (weights_mem_all (List.mem_map_of_mem hy) k hk))
    have hnl : n ≤ 140737488351232 := by
      have h1 : ((elems.map (·.1)).length + (rest.map (·.1)).length) * Try.prog.bytesOf 25 ∈ (DataW.slice (elems.map (·.1)) (rest.map (·.1))).weights Try.prog 22 := by
        simp only [DataW.weights, Try.underlying22]
        exact List.mem_cons_self
      have h2 := List.all_eq_true.1 hsz _ (DataW.weights_mem_each ht hd _ h1)
      rw [hB] at h2
      simp [reachBytes] at h2
      omega
    have each : ∀ k, k < n → ∃ i : Itm, RdE w i.r i.q i.x i.e ∧ i.e.Fits ∧ EOk i.e ∧ ∀ o u, [i.r, .int .i64 i.e.fam, i.q, .int .i64 i.e.ts, .int .i64 i.e.seq, .int .i64 i.e.kind, i.x][o]? = some u → w.cell? ((a.add (k * 7)).add o) = some u := by
      intro k hk
      have h1 := hel k hk
      rw [hC] at h1
      have hke : k < elems.length := by omega
      rw [List.getElem?_eq_getElem hke] at h1
      obtain ⟨cs, hcs, h2⟩ := Option.bind_eq_some_iff.1 h1
      obtain ⟨_, hl7, hcell⟩ := World.cells?_some hcs
      obtain ⟨c0, c1, c2, c3, c4, c5, c6, rfl⟩ := len7 hl7
      obtain ⟨e, rfl, rfl, rfl, rfl, g1, g2, g3⟩ := trod_ent h2 (hw _ (List.getElem_mem hke))
      refine ⟨⟨c0, c2, c6, e⟩, g1, g2, g3, ?_⟩
      intro o u ho
      have ho7 := (List.getElem?_eq_some_iff.1 ho).1
      exact (hcell o ho7).trans ho
    obtain ⟨is, hil, his⟩ : ∃ is : List Itm, is.length = n ∧ ∀ k i, is[k]? = some i → RdE w i.r i.q i.x i.e ∧ i.e.Fits ∧ EOk i.e ∧ ∀ o u, [i.r, .int .i64 i.e.fam, i.q, .int .i64 i.e.ts, .int .i64 i.e.seq, .int .i64 i.e.kind, i.x][o]? = some u → w.cell? ((a.add (k * 7)).add o) = some u := by
      have build : ∀ m, m ≤ n → ∃ is : List Itm, is.length = m ∧ ∀ k i, is[k]? = some i → RdE w i.r i.q i.x i.e ∧ i.e.Fits ∧ EOk i.e ∧ ∀ o u, [i.r, .int .i64 i.e.fam, i.q, .int .i64 i.e.ts, .int .i64 i.e.seq, .int .i64 i.e.kind, i.x][o]? = some u → w.cell? ((a.add (k * 7)).add o) = some u := by
        intro m
        induction m with
        | zero => exact fun _ => ⟨[], rfl, by simp⟩
        | succ m ih =>
          intro hm
          obtain ⟨is, h1, h2⟩ := ih (by omega)
          obtain ⟨i, h3⟩ := each m (by omega)
          refine ⟨is ++ [i], by simp [h1], fun k j hk => ?_⟩
          by_cases hkm : k < is.length
          · rw [List.getElem?_append_left hkm] at hk; exact h2 k j hk
          · have hk2 := (List.getElem?_eq_some_iff.1 hk).1
            simp at hk2
            have : k = m := by omega
            subst this
            rw [List.getElem?_append_right (by omega), h1, Nat.sub_self] at hk
            simp at hk
            subst hk
            exact h3
      exact build n (Nat.le_refl _)
    refine ⟨is, ⟨⟨by rw [flat_len], _, _, by rw [hil], by omega, ?_⟩, ?_, ?_⟩, ?_, by omega⟩
    · intro j u hu
      refine ⟨a, rfl, ?_⟩
      have hj := (List.getElem?_eq_some_iff.1 hu).1
      rw [flat_len] at hj
      have hk : j / 7 < is.length := by omega
      have hit := List.getElem?_eq_getElem hk
      have h4 := (his _ _ hit).2.2.2
      have h5 := flat_at is (j / 7) _ hit
      generalize is[j / 7] = i at *
      have hjm : j = 7 * (j / 7) + j % 7 := (Nat.div_add_mod j 7).symm
      have hm7 : j % 7 < 7 := Nat.mod_lt _ (by omega)
      generalize j / 7 = k at *
      generalize j % 7 = o at *
      subst hjm
      have h6 : w.cell? ((a.add (k * 7)).add o) = some u := by
        refine h4 o u ?_
        obtain ⟨f0, f1, f2, f3, f4, f5, f6⟩ := h5
        have : o = 0 ∨ o = 1 ∨ o = 2 ∨ o = 3 ∨ o = 4 ∨ o = 5 ∨ o = 6 := by omega
        rcases this with rfl | rfl | rfl | rfl | rfl | rfl | rfl
        · rw [Nat.add_zero, f0] at hu; exact hu
        · rw [f1] at hu; exact hu
        · rw [f2] at hu; exact hu
        · rw [f3] at hu; exact hu
        · rw [f4] at hu; exact hu
        · rw [f5] at hu; exact hu
        · rw [f6] at hu; exact hu
      rw [← h6]
      congr 1
      unfold Addr.add
      by_cases h1 : k = 0
      · subst h1; simp
      · by_cases h2 : o = 0
        · subst h2; simp [Nat.mul_comm]
        · have h7 : k * 7 ≠ 0 := by omega
          simp [h2, h7, Nat.mul_comm 7 k, Nat.add_assoc]
    · intro i hi
      obtain ⟨k, hk⟩ := List.getElem?_of_mem hi
      exact (his k i hk).1
    · exact fun z _ k _ => Nat.zero_le _
    · intro i hi
      obtain ⟨k, hk⟩ := List.getElem?_of_mem hi
      exact ⟨(his k i hk).2.1, (his k i hk).2.2.1⟩
end Go.Proofs.Ytckhefkedkipeaa

/- Layer 8's at, Table.Len, and what two entries make of a new table. -/
import Derived.Test.YtckhefkedkipeaaMAdd2
namespace Go.Proofs.Ytckhefkedkipeaa
open Go.RowKit
set_option linter.unusedVariables false

def atE (n : Int) : Ent := ⟨[114], 0, [113], n, 32, 1, [118]⟩
theorem atE_fits (n : Int) (h : isI64 n) : (atE n).Fits := by refine ⟨?_, h, ?_, ?_, ?_, ?_, ?_⟩ <;> simp [atE, isI64]
set_option maxHeartbeats 1000000 in
theorem at8_ok (n : Int) (w : World) : Calls Try.prog 16 #[.int .i64 n] w (OutR w (atE n)) := by
  have hV := Var.new w #[.slice none 0 0, .int .i64 0, .slice none 0 0, .int .i64 0, .int .i64 0, .int .i64 0, .slice none 0 0] 25
  have hE := (Ext.refl w).alloc (.cells #[.slice none 0 0, .int .i64 0, .slice none 0 0, .int .i64 0, .int .i64 0, .int .i64 0, .slice none 0 0] 25)
  generalize hWg : w.alloc (.cells #[.slice none 0 0, .int .i64 0, .slice none 0 0, .int .i64 0, .int .i64 0, .int .i64 0, .slice none 0 0] 25) = W at *
  have hlt := hV.lt
  have hs0 := hE.size
  obtain ⟨X1, W1, hX1, hc1, hr1, he1⟩ := lay_const W 114
  obtain ⟨X2, W2, hX2, hc2, hr2, he2⟩ := lay_const W1 113
  obtain ⟨X3, W3, hX3, hc3, hr3, he3⟩ := lay_const W2 118
  have hV3 := ((hV.ext he1).ext he2).ext he3
  have hk3 := hV3.cell
  have hz3 := hV3.frozen
  obtain ⟨x9, hx9, hV9, hg9⟩ := store7 hV3 rfl (.slice (some ⟨W.heap.size, 0, none⟩) 1 1) (.int .i64 0) (.slice (some ⟨W1.heap.size, 0, none⟩) 1 1) (.int .i64 n) (.int .i64 32) (.int .i64 1) (.slice (some ⟨W2.heap.size, 0, none⟩) 1 1)
  have hc9 := hV9.cell
  go_enter Try.func16, Try.ntmps16
  go_wp2
  have s1 := he1.size
  have s2 := he2.size
  have hfr : Fr (fun k => k = w.heap.size) W3 x9 := Fr.grown hg9 (fun k hk => by cases hk; rfl)
  have hoff : ∀ (b : Nat), W.heap.size ≤ b → Off (fun k => k = w.heap.size) (.slice (some ⟨b, 0, none⟩) 1 1) := by
    intro b hb k hk
    simp [Value.ownBlock] at hk
    omega
  have hrd : RdE x9 (.slice (some ⟨W.heap.size, 0, none⟩) 1 1) (.slice (some ⟨W1.heap.size, 0, none⟩) 1 1) (.slice (some ⟨W2.heap.size, 0, none⟩) 1 1) (atE n) :=
    ⟨RdB.fr ((hr1.ext he2).ext he3) hfr (hoff _ (Nat.le_refl _)), RdB.fr (hr2.ext he3) hfr (hoff _ s1), RdB.fr hr3 hfr (hoff _ (Nat.le_trans s1 s2))⟩
  have hF : FromE w.heap.size (.slice (some ⟨W.heap.size, 0, none⟩) 1 1) (.slice (some ⟨W1.heap.size, 0, none⟩) 1 1) (.slice (some ⟨W2.heap.size, 0, none⟩) 1 1) :=
    ⟨From.new _ _ _ _ _ hs0, From.new _ _ _ _ _ (Nat.le_trans hs0 s1), From.new _ _ _ _ _ (Nat.le_trans hs0 (Nat.le_trans s1 s2))⟩
  exact bodyPost_ret (v := .agg (entCells (.slice (some ⟨W.heap.size, 0, none⟩) 1 1) (.slice (some ⟨W1.heap.size, 0, none⟩) 1 1) (.slice (some ⟨W2.heap.size, 0, none⟩) 1 1) (atE n))) (by simp [results, Try.results16, go_sem, entCells, atE, hc9]) rfl
    ⟨_, _, _, rfl, hrd, hF, (((hE.trans he1).trans he2).trans he3).put hg9 (Nat.le_refl _)⟩
set_option maxHeartbeats 400000 in
theorem Len_ok (pa N : Nat) (t : Tr) (w : World) (hT : Tab w N pa t) : Calls Try.prog 17 #[.pointer (some ⟨pa, 0, none⟩)] w fun e w' => e = .returned (.int .i64 (t.size : Int)) ∧ w' = w := by
  obtain ⟨⟨v, n, B, hV, ht, h0, h1⟩, hpa⟩ := hT
  subst h1
  have hc := hV.cell
  unfold tabCells at hc
  clear hV ht h0
  generalize (t.size : Int) = m at *
  go_enter Try.func17, Try.ntmps17
  go_wp2
  go_ret
  exact ⟨rfl, rfl⟩
theorem Tab.ext {w w' : World} {N pa : Nat} {t : Tr} (h : Tab w N pa t) (he : Ext w w') : Tab w' N pa t := by
  obtain ⟨⟨v, n, B, hV, ht, h0, h1⟩, hpa⟩ := h
  exact ⟨⟨v, n, B, hV.ext he, ht.ext he, h0, h1⟩, hpa⟩
theorem Tab.new {w w' : World} {N pa : Nat} (h : Var w pa 59 (tabCells (.pointer none) 0 0)) (hp : pa < N) : Tab w N pa .leaf := ⟨⟨_, 0, 0, h, rfl, Int.le_refl _, rfl⟩, hp⟩
/-- What told makes of a new table. -/
structure AtFacts (t1 t2 : Tr) : Prop where
  c1 : addCode (atE 4) .leaf = 0
  s1 : addTr (atE 4) .leaf = t1
  z1 : t1.size ≤ 400
  c2 : addCode (atE 5) t1 = 0
  s2 : addTr (atE 5) t1 = t2
  z2 : t2.size = 2
  c3 : addCode (atE 5) t2 = 80
  s3 : addTr (atE 5) t2 = t2
  l2 : t2.list = [atE 5, atE 4]
  ok : ∀ e ∈ t2.list, checkL e = 0
theorem atFacts : ∃ t1 t2, AtFacts t1 t2 := by
  have hl : (addTr (atE 5) (addTr (atE 4) .leaf)).list = [atE 5, atE 4] := by kernel_rfl
  have hs : addTr (atE 5) (addTr (atE 5) (addTr (atE 4) .leaf)) = addTr (atE 5) (addTr (atE 4) .leaf) := by kernel_rfl
  have h1 : (addTr (atE 4) .leaf).size = 1 := by kernel_rfl
  refine ⟨_, _, by kernel_rfl, rfl, by omega, by kernel_rfl, rfl, by kernel_rfl, by kernel_rfl, hs, hl, ?_⟩
  rw [hl]
  have h5 : checkL (atE 5) = 0 := by kernel_rfl
  have h4 : checkL (atE 4) = 0 := by kernel_rfl
  intro e he
  rcases List.mem_cons.1 he with rfl | he
  · exact h5
  · rcases List.mem_cons.1 he with rfl | he
    · exact h4
    · cases he
end Go.Proofs.Ytckhefkedkipeaa

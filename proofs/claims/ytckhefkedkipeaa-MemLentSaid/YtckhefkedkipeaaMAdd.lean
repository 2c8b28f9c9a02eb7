/- Package mem: New and Add. -/
import Derived.Test.YtckhefkedkipeaaMSort
namespace Go.Proofs.Ytckhefkedkipeaa
open Go.RowKit
set_option linter.unusedVariables false

theorem withT_false (x : Ent) : ∀ t : Tr, (withT x t).2 = false → (withT x t).1 = t
  | .leaf, h => by simp [withT] at h
  | .node e l r, h => by
    unfold withT at h ⊢
    by_cases h1 : compareL x e < 0
    · rw [if_pos h1] at h ⊢
      by_cases h2 : (withT x l).2 = true
      · rw [if_pos h2] at h; simp at h
      · rw [if_neg h2]
    · rw [if_neg h1] at h ⊢
      by_cases h3 : 0 < compareL x e
      · rw [if_pos h3] at h ⊢
        by_cases h2 : (withT x r).2 = true
        · rw [if_pos h2] at h; simp at h
        · rw [if_neg h2]
      · rw [if_neg h3]
theorem withT_size2 (x : Ent) : ∀ t : Tr, (withT x t).2 = true → (withT x t).1.size = t.size + 1
  | .leaf, _ => rfl
  | .node e l r, h => by
    have h3 : ∀ a b, (evenT e a b).size = a.size + 1 + b.size := fun a b => by
      rw [← Tr.size_list, evenT_list, List.length_append, List.length_cons, Tr.size_list, Tr.size_list]; omega
    have hl := withT_size2 x l
    have hr := withT_size2 x r
    unfold withT at h ⊢
    by_cases h1 : compareL x e < 0
    · rw [if_pos h1] at h ⊢
      by_cases h2 : (withT x l).2 = true
      · rw [if_pos h2]; simp only [h3, Tr.size]; have := hl h2; omega
      · rw [if_neg h2] at h; simp at h
    · rw [if_neg h1] at h ⊢
      by_cases h4 : 0 < compareL x e
      · rw [if_pos h4] at h ⊢
        by_cases h2 : (withT x r).2 = true
        · rw [if_pos h2]; simp only [h3, Tr.size]; have := hr h2; omega
        · rw [if_neg h2] at h; simp at h
      · rw [if_neg h4] at h; simp at h
theorem Fr.set (w : World) (b j : Nat) (v : Value) : Fr (fun k => k = b) w (w.setCell ⟨b, j, none⟩ v) := ⟨rfl, rfl, rfl, by simp, fun k _ hn => Below.heap_setCell _ _ _ _ hn⟩
/-- A memtable's cells. -/
def tabCells (v : Value) (n B : Int) : Array Value := #[.func (.func 21) #[] #[], v, .int .i64 n, .int .i64 B, .bool false]
set_option maxHeartbeats 400000 in
theorem New_ok (w : World) : Calls Try.prog 5 #[] w fun e w' => e = .returned (.pointer (some ⟨w.heap.size, 0, none⟩)) ∧ Var w' w.heap.size 59 (tabCells (.pointer none) 0 0) ∧ Ext w w' ∧ w'.heap.size = w.heap.size + 1 := by
  go_enter Try.func5, Try.ntmps5
  go_wp2
  go_ret
  exact ⟨rfl, Var.new w _ _, (Ext.refl w).alloc _, by simp⟩

set_option maxHeartbeats 2000000 in
set_option maxRecDepth 100000 in
theorem add_ok (r q x v : Value) (e : Ent) (t : Tr) (n B : Int) (pa N : Nat) (w : World) (hr : RdE w r q x e) (hN : FromE N r q x) (hNw : N ≤ w.heap.size) (hT : Var w pa 59 (tabCells v n B)) (ht : TreeIn w N v t) (hs : t.size ≤ 400) (hn : 0 ≤ n ∧ n ≤ 1000) (hpa : pa < N) :
    Calls Try.prog 27 #[.pointer (some ⟨pa, 0, none⟩), .agg (entCells r q x e)] w fun e0 w' => e0 = .returned (.bool (withT e t).2) ∧ Fr (fun k => k = pa) w w' ∧ ∃ v', Var w' pa 59 (tabCells v' (if (withT e t).2 = true then n + 1 else n) B) ∧ TreeIn w' N v' (withT e t).1 := by
  obtain ⟨pv, rfl⟩ := ht.form
  have hV := Var.new w (entCells r q x e) 25
  have hE := (Ext.refl w).alloc (.cells (entCells r q x e) 25)
  unfold entCells at hV hE ⊢
  obtain ⟨W, hW⟩ : ∃ W, w.alloc (.cells #[r, .int .i64 e.fam, q, .int .i64 e.ts, .int .i64 e.seq, .int .i64 e.kind, x] 25) = W := ⟨_, rfl⟩
  rw [hW] at hV hE
  have hk : ∀ w', Ext W w' → w'.cell? ⟨pa, 1, none⟩ = some (.pointer pv) ∧ w'.cell? ⟨w.heap.size, 0, none⟩ = some r ∧ w'.cell? ⟨w.heap.size, 1, none⟩ = some (.int .i64 e.fam) ∧ w'.cell? ⟨w.heap.size, 2, none⟩ = some q ∧ w'.cell? ⟨w.heap.size, 3, none⟩ = some (.int .i64 e.ts) ∧ w'.cell? ⟨w.heap.size, 4, none⟩ = some (.int .i64 e.seq) ∧ w'.cell? ⟨w.heap.size, 5, none⟩ = some (.int .i64 e.kind) ∧ w'.cell? ⟨w.heap.size, 6, none⟩ = some x := by
    intro w' h
    have h0 := (hV.ext h).cell
    have h1 := (hT.ext (hE.trans h)).cell
    refine ⟨?_, ?_, ?_, ?_, ?_, ?_, ?_, ?_⟩ <;> first | (rw [h0]; rfl) | (rw [h1]; rfl)
  have HK := Lib.hid hk
  have HC := Lib.hid (fun W' (h : Ext W W') => with_ok r q x e pa N t (.pointer pv) W' (hr.ext (hE.trans h)) hN (Nat.le_trans hNw (hE.trans h).size) (by rw [(hT.ext (hE.trans h)).cell]; rfl) (ht.ext (hE.trans h)) hs)
  unfold entCells at HC
  have HT := Lib.hid hT
  have hfl := withT_false e t
  have HTO := Lib.hid ht
  obtain ⟨p, hp⟩ : ∃ p, withT e t = p := ⟨_, rfl⟩
  rw [hp] at HC hfl ⊢
  obtain ⟨T, ok⟩ := p
  have hbd : pa < w.heap.size := hT.lt
  have HFL := Lib.hid hfl
  clear hk hV hr hT ht hs hp hfl
  go_enter Try.func27, Try.ntmps27
  go_wp2_with fail
  clear hW
  go_region_held3 (fun w' => w'.cell? ⟨pa, 1, none⟩ = some (.pointer pv) ∧ w'.cell? ⟨w.heap.size, 0, none⟩ = some r ∧ w'.cell? ⟨w.heap.size, 1, none⟩ = some (.int .i64 e.fam) ∧ w'.cell? ⟨w.heap.size, 2, none⟩ = some q ∧ w'.cell? ⟨w.heap.size, 3, none⟩ = some (.int .i64 e.ts) ∧ w'.cell? ⟨w.heap.size, 4, none⟩ = some (.int .i64 e.seq) ∧ w'.cell? ⟨w.heap.size, 5, none⟩ = some (.int .i64 e.kind) ∧ w'.cell? ⟨w.heap.size, 6, none⟩ = some x)
    (first | exact HK.out _ (Ext.refl _).drew | exact HK.out _ ((Ext.refl _).drew.trans he1))
    (first | (go_at_call 42; (with_reducible refine (HC.out _ (Ext.refl _).drew).mono ?_); rintro e0 w1 ⟨v1, rfl, ht1, he1⟩; obtain ⟨p1, rfl⟩ := ht1.form; dsimp only at ht1 ⊢))
  have hE1 : Ext w w1 := hE.trans ((Ext.refl _).drew.trans he1)
  have hT1 := HT.out.ext hE1
  have hc := hT1.cell
  have hz := hT1.frozen
  have HT1 := Lib.hid hT1
  have HTR := Lib.hid ht1
  clear ht1 hT1
  have u1 : IntKind.i64.wrap (n + 1) = n + 1 := by rw [IntKind.wrap_i64]; omega
  cases ok with
  | false =>
    go_wp2
    go_ret
    have e1 : T = t := HFL.out (by first | rfl | trivial)
    subst e1
    exact ⟨rfl, Fr.ext hE1 _, _, HT1.out, HTO.out.ext hE1⟩
  | true =>
    unfold tabCells at hc
    go_wp2
    go_ret
    have hS : ∀ (y : World) (j : Nat) (u : Value), Fr (fun k => k = pa) y (y.setCell ⟨pa, j, none⟩ u) := fun y j u => Fr.set y pa j u
    refine ⟨rfl, ((Fr.ext hE1 _).trans (hS _ _ _)).trans (hS _ _ _), .pointer p1, ?_, ?_⟩
    · exact (HT1.out.set 1 _).set 2 _
    · exact (HTR.out.fr (hS _ _ _) (fun b hb => by subst hb; exact hpa)).fr (hS _ _ _) (fun b hb => by subst hb; exact hpa)
end Go.Proofs.Ytckhefkedkipeaa

/- Package mem: behind, From, All; the tests that they hand on. -/
import Derived.Test.YtckhefkedkipeaaMBehind
namespace Go.Proofs.Ytckhefkedkipeaa
open Go.RowKit
set_option linter.unusedVariables false

set_option maxHeartbeats 400000 in
theorem behind_ok (pa : Nat) (fa : Nat) (lb : Array Value) (w : World) : Calls Try.prog 31 #[.pointer (some ⟨pa, 0, none⟩), .func (.func fa) #[] lb] w fun e w' =>
    e = .returned (.func (.func 46) #[] #[.pointer (some ⟨w.heap.size, 0, none⟩), .pointer (some ⟨w.heap.size + 1, 0, none⟩)]) ∧ Ext w w' ∧ w'.heap.size = w.heap.size + 2 ∧ w'.cell? ⟨w.heap.size, 0, none⟩ = some (.pointer (some ⟨pa, 0, none⟩)) ∧ w'.cell? ⟨w.heap.size + 1, 0, none⟩ = some (.func (.func fa) #[] lb) := by
  have h1 := Var.new w #[.pointer (some ⟨pa, 0, none⟩)] 27
  have h2 := Var.new (w.alloc (.cells #[.pointer (some ⟨pa, 0, none⟩)] 27)) #[.func (.func fa) #[] lb] 64
  have h3 := h1.alloc (.cells #[.func (.func fa) #[] lb] 64)
  rw [World.size_alloc] at h2
  have c1 := h3.cell 0
  have c2 := h2.cell 0
  have hE := ((Ext.refl w).alloc (.cells #[.pointer (some ⟨pa, 0, none⟩)] 27)).alloc (.cells #[.func (.func fa) #[] lb] 64)
  have hs : ((w.alloc (.cells #[.pointer (some ⟨pa, 0, none⟩)] 27)).alloc (.cells #[.func (.func fa) #[] lb] 64)).heap.size = w.heap.size + 2 := by simp
  obtain ⟨X, hX⟩ : ∃ X, ((w.alloc (.cells #[.pointer (some ⟨pa, 0, none⟩)] 27)).alloc (.cells #[.func (.func fa) #[] lb] 64)) = X := ⟨_, rfl⟩
  rw [hX] at c1 c2 hE hs
  have HH := Lib.hid (show Ext w X ∧ X.heap.size = w.heap.size + 2 ∧ X.cell? ⟨w.heap.size, 0, none⟩ = some (.pointer (some ⟨pa, 0, none⟩)) ∧ X.cell? ⟨w.heap.size + 1, 0, none⟩ = some (.func (.func fa) #[] lb) from ⟨hE, hs, c1, c2⟩)
  clear h1 h2 h3 c1 c2 hE hs
  go_enter Try.func31, Try.ntmps31
  go_wp2
  go_ret
  exact ⟨rfl, HH.out⟩
set_option maxHeartbeats 400000 in
theorem all1_ok (r q x : Value) (e : Ent) (w : World) : Calls Try.prog 32 #[.agg (entCells r q x e)] w fun e0 w' => e0 = .returned (.bool false) ∧ Ext w w' := by
  unfold entCells
  go_enter Try.func32, Try.ntmps32
  go_wp2
  go_ret
  exact ⟨rfl, (Ext.refl _).alloc _⟩
set_option maxHeartbeats 1000000 in
theorem from1_ok (r q x r' q' x' : Value) (e e' : Ent) (ko : Nat) (w : World) (hV : Var w ko 25 (entCells r' q' x' e')) (hr : RdE w r q x e) (hr' : RdE w r' q' x' e') :
    Calls Try.prog 33 #[.agg (entCells r q x e), .pointer (some ⟨ko, 0, none⟩)] w fun e0 w' => e0 = .returned (.bool (decide (compareL e e' < 0))) ∧ Ext w w' := by
  have h1 := Var.new w (entCells r q x e) 25
  have hE := (Ext.refl w).alloc (.cells (entCells r q x e) 25)
  unfold entCells at h1 hE hV ⊢
  obtain ⟨X, hX⟩ : ∃ X, w.alloc (.cells #[r, .int .i64 e.fam, q, .int .i64 e.ts, .int .i64 e.seq, .int .i64 e.kind, x] 25) = X := ⟨_, rfl⟩
  rw [hX] at h1 hE
  have c1 := h1.cell
  have c2 := (hV.ext hE).cell
  have HC := Lib.hid (Compare_ok r q x r' q' x' e e' X (hr.ext hE) (hr'.ext hE))
  unfold entCells at HC
  clear h1 hV hr hr'
  generalize compareL e e' = c at *
  go_enter Try.func33, Try.ntmps33
  go_wp2_with fail
  clear hX
  go_wp2_with (go_at_call 21; refine HC.out.mono ?_; rintro e0 w1 ⟨rfl, he1⟩)
  go_ret
  exact ⟨rfl, hE.trans he1⟩
set_option maxHeartbeats 400000 in
theorem All_ok (pa : Nat) (w : World) : Calls Try.prog 18 #[.pointer (some ⟨pa, 0, none⟩)] w fun e w' =>
    e = .returned (.func (.func 46) #[] #[.pointer (some ⟨w.heap.size, 0, none⟩), .pointer (some ⟨w.heap.size + 1, 0, none⟩)]) ∧ Ext w w' ∧ w'.heap.size = w.heap.size + 2 ∧ w'.cell? ⟨w.heap.size, 0, none⟩ = some (.pointer (some ⟨pa, 0, none⟩)) ∧ w'.cell? ⟨w.heap.size + 1, 0, none⟩ = some (.func (.func 32) #[] #[]) := by
  go_enter Try.func18, Try.ntmps18
  go_wp2_with (go_at_call 31; refine (behind_ok pa _ _ w).mono ?_; rintro e0 w1 ⟨rfl, h1, h2, h3, h4⟩)
  go_ret
  exact ⟨rfl, h1, h2, h3, h4⟩
set_option maxHeartbeats 1000000 in
theorem From_ok (pa : Nat) (r q x : Value) (e : Ent) (w : World) (hr : RdE w r q x e) (f1 : e.row.length ≤ 140737488351232) (f2 : e.qual.length ≤ 140737488351232) (f3 : e.value.length ≤ 140737488351232) :
    Calls Try.prog 19 #[.pointer (some ⟨pa, 0, none⟩), .agg (entCells r q x e)] w fun e0 w' => ∃ ko kt r' q' x',
      e0 = .returned (.func (.func 46) #[] #[.pointer (some ⟨kt, 0, none⟩), .pointer (some ⟨kt + 1, 0, none⟩)]) ∧ Ext w w' ∧ w.heap.size ≤ ko ∧ ko < kt ∧ kt + 2 = w'.heap.size ∧ w'.cell? ⟨kt, 0, none⟩ = some (.pointer (some ⟨pa, 0, none⟩)) ∧ w'.cell? ⟨kt + 1, 0, none⟩ = some (.func (.func 33) #[] #[.pointer (some ⟨ko, 0, none⟩)]) ∧
      Var w' ko 25 (entCells r' q' x' e) ∧ RdE w' r' q' x' e ∧ FromE w.heap.size r' q' x' := by
  have h1 := Var.new w (entCells r q x e) 25
  have hE := (Ext.refl w).alloc (.cells (entCells r q x e) 25)
  have HO := Lib.hid (fun W' (h : Ext w W') => own_ok r q x e W' (hr.ext h) f1 f2 f3)
  unfold entCells at h1 hE HO ⊢
  obtain ⟨X, hX⟩ : ∃ X, w.alloc (.cells #[r, .int .i64 e.fam, q, .int .i64 e.ts, .int .i64 e.seq, .int .i64 e.kind, x] 25) = X := ⟨_, rfl⟩
  rw [hX] at h1 hE
  have c1 := h1.cell
  have hXs : X.heap.size = w.heap.size + 1 := by rw [← hX]; simp
  clear h1 hr
  go_enter Try.func19, Try.ntmps19
  go_wp2_with fail
  clear hX
  refine (HO.out X hE).mono ?_
  rintro e0 w1 ⟨r', q', x', rfl, ho, hfo, he1⟩
  obtain ⟨A1, d1, rfl, -⟩ := ho.row.rd.shape
  obtain ⟨A2, d2, rfl, -⟩ := ho.qual.rd.shape
  obtain ⟨A3, d3, rfl, -⟩ := ho.value.rd.shape
  have hw1 := he1.size
  have hVz := Var.new w1 #[.slice none 0 0, .int .i64 0, .slice none 0 0, .int .i64 0, .int .i64 0, .int .i64 0, .slice none 0 0] 25
  have hEz := (Ext.refl w1).alloc (.cells #[.slice none 0 0, .int .i64 0, .slice none 0 0, .int .i64 0, .int .i64 0, .int .i64 0, .slice none 0 0] 25)
  obtain ⟨Y, hY⟩ : ∃ Y, w1.alloc (.cells #[.slice none 0 0, .int .i64 0, .slice none 0 0, .int .i64 0, .int .i64 0, .int .i64 0, .slice none 0 0] 25) = Y := ⟨_, rfl⟩
  rw [hY] at hVz hEz
  have hcu := hVz.cell
  have hzu := hVz.frozen
  obtain ⟨y9, hy9, hV9, hg9⟩ := store7 hVz rfl (.slice A1 e.row.length d1) (.int .i64 e.fam) (.slice A2 e.qual.length d2) (.int .i64 e.ts) (.int .i64 e.seq) (.int .i64 e.kind) (.slice A3 e.value.length d3)
  have e9 : Ext w1 y9 := hEz.put hg9 (Nat.le_refl _)
  have HV9 := Lib.hid hV9
  have HOO := Lib.hid ho
  have HFO := Lib.hid hfo
  clear hV9 ho hfo c1
  simp only [entCells]
  go_wp2_with (go_at_call 31; refine (behind_ok pa _ _ y9).mono ?_; rintro e0 w2 ⟨rfl, g1, g2, g3, g4⟩)
  go_ret
  have hlt := HV9.out.lt
  refine ⟨w1.heap.size, y9.heap.size, _, _, _, rfl, ((hE.trans he1).trans e9).trans g1, by omega, hlt, g2.symm, g3, g4, HV9.out.ext g1, ?_, ?_⟩
  · have h := (HOO.out.ext e9).ext g1
    exact ⟨h.row.rd, h.qual.rd, h.value.rd⟩
  · exact FromE.mono HFO.out (by omega)
end Go.Proofs.Ytckhefkedkipeaa

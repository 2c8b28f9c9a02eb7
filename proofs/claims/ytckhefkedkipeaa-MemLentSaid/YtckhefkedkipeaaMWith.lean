/- Package mem: with, the tree with one entry more; its list is the old one with the entry put in. -/
import Derived.Test.YtckhefkedkipeaaMEven2
namespace Go.Proofs.Ytckhefkedkipeaa
open Go.RowKit
set_option linter.unusedVariables false

/-- The tree with x; whether x was put in. -/
def withT (x : Ent) : Tr → Tr × Bool
  | .leaf => (.node x .leaf .leaf, true)
  | .node e l r =>
    if compareL x e < 0 then if (withT x l).2 = true then (evenT e (withT x l).1 r, true) else (.node e l r, false)
    else if 0 < compareL x e then if (withT x r).2 = true then (evenT e l (withT x r).1, true) else (.node e l r, false)
    else (.node e l r, false)
theorem withT_size (x : Ent) : ∀ t : Tr, (withT x t).1.size ≤ t.size + 1
  | .leaf => by simp [withT, Tr.size]
  | .node e l r => by
    have h1 := withT_size x l
    have h2 := withT_size x r
    have h3 : ∀ a b, (evenT e a b).size = a.size + 1 + b.size := fun a b => by
      rw [← Tr.size_list, evenT_list, List.length_append, List.length_cons, Tr.size_list, Tr.size_list]; omega
    unfold withT
    (repeat' split) <;> simp only [h3, Tr.size] <;> omega
/-- What with answers. -/
def OutW (w : World) (N : Nat) (p : Tr × Bool) (e : Ending) (w' : World) : Prop := ∃ v, e = .returned (.tuple #[v, .bool p.2]) ∧ TreeIn w' N v p.1 ∧ Ext w w'

set_option maxHeartbeats 1000000 in
set_option maxRecDepth 100000 in
theorem with_leaf (r q x : Value) (e : Ent) (pa N : Nat) (w : World) (hr : RdE w r q x e) (hN : FromE N r q x) (hNw : N ≤ w.heap.size) (hpa : w.cell? ⟨pa, 0, none⟩ = some (.func (.func 21) #[] #[])) :
    Calls Try.prog 42 #[.pointer (some ⟨pa, 0, none⟩), .pointer none, .agg (entCells r q x e)] w (OutW w N (withT e .leaf)) := by
  have hV := Var.new w (entCells r q x e) 25
  have hE := (Ext.refl w).alloc (.cells (entCells r q x e) 25)
  unfold entCells at hV hE ⊢
  obtain ⟨W, hW⟩ : ∃ W, w.alloc (.cells #[r, .int .i64 e.fam, q, .int .i64 e.ts, .int .i64 e.seq, .int .i64 e.kind, x] 25) = W := ⟨_, rfl⟩
  rw [hW] at hV hE
  have HH := Lib.hid (hang_ok r q x (.pointer none) (.pointer none) e .leaf .leaf N W (hr.ext hE) hN rfl rfl (by simp [Tr.ht]) (by simp [Tr.ht]) (Nat.le_trans hNw hE.size))
  unfold entCells at HH
  have hc := hV.cell
  clear hr hV
  go_enter Try.func42, Try.ntmps42
  go_wp2_with fail
  clear hW
  go_wp2_with (go_at_call 65; refine HH.out.mono ?_; rintro e0 w1 ⟨v1, rfl, ht1, he1⟩; obtain ⟨p1, rfl⟩ := ht1.form)
  go_ret2
  exact ⟨_, rfl, ht1, hE.trans he1⟩

set_option maxHeartbeats 4000000 in
set_option maxRecDepth 100000 in
theorem with_eq (r q x : Value) (e : Ent) (pa : Nat) (r1 q1 x1 : Value) (e1 : Ent) (b1 : Nat) (pl pr : Option Addr) (l rt : Tr) (N : Nat) (w : World) (hr : RdE w r q x e) (hN : FromE N r q x) (hNw : N ≤ w.heap.size) (hpa : w.cell? ⟨pa, 0, none⟩ = some (.func (.func 21) #[] #[])) (hV1 : Var w b1 87 (nodeCells r1 q1 x1 (.pointer pl) (.pointer pr) e1 (1 + max l.ht rt.ht))) (hR1 : RdE w r1 q1 x1 e1) (hN1 : FromE N r1 q1 x1) (hb1 : N ≤ b1) (hl : TreeIn w N (.pointer pl) l) (hrt : TreeIn w N (.pointer pr) rt) (hsz : l.size + rt.size ≤ 400) (hcmp : compareL e e1 = 0) :
    Calls Try.prog 42 #[.pointer (some ⟨pa, 0, none⟩), .pointer (some ⟨b1, 0, none⟩), .agg (entCells r q x e)] w (OutW w N (.node e1 l rt, false)) := by
  have hV := Var.new w (entCells r q x e) 25
  have hE := (Ext.refl w).alloc (.cells (entCells r q x e) 25)
  unfold entCells at hV hE ⊢
  obtain ⟨W, hW⟩ : ∃ W, w.alloc (.cells #[r, .int .i64 e.fam, q, .int .i64 e.ts, .int .i64 e.seq, .int .i64 e.kind, x] 25) = W := ⟨_, rfl⟩
  rw [hW] at hV hE
  have hk : ∀ w', Ext W w' → w'.cell? ⟨pa, 0, none⟩ = some (.func (.func 21) #[] #[]) ∧ w'.cell? ⟨w.heap.size, 0, none⟩ = some r ∧ w'.cell? ⟨w.heap.size, 1, none⟩ = some (.int .i64 e.fam) ∧ w'.cell? ⟨w.heap.size, 2, none⟩ = some q ∧ w'.cell? ⟨w.heap.size, 3, none⟩ = some (.int .i64 e.ts) ∧ w'.cell? ⟨w.heap.size, 4, none⟩ = some (.int .i64 e.seq) ∧ w'.cell? ⟨w.heap.size, 5, none⟩ = some (.int .i64 e.kind) ∧ w'.cell? ⟨w.heap.size, 6, none⟩ = some x ∧ w'.cell? ⟨b1, 0, none⟩ = some r1 ∧ w'.cell? ⟨b1, 1, none⟩ = some (.int .i64 e1.fam) ∧ w'.cell? ⟨b1, 2, none⟩ = some q1 ∧ w'.cell? ⟨b1, 3, none⟩ = some (.int .i64 e1.ts) ∧ w'.cell? ⟨b1, 4, none⟩ = some (.int .i64 e1.seq) ∧ w'.cell? ⟨b1, 5, none⟩ = some (.int .i64 e1.kind) ∧ w'.cell? ⟨b1, 6, none⟩ = some x1 ∧ w'.cell? ⟨b1, 7, none⟩ = some (.pointer pl) ∧ w'.cell? ⟨b1, 8, none⟩ = some (.pointer pr) := by
    intro w' h
    have h0 := (hV.ext h).cell
    have g1 := (hV1.ext (hE.trans h)).cell
    have ga := (hE.trans h).cell hpa
    refine ⟨?_, ?_, ?_, ?_, ?_, ?_, ?_, ?_, ?_, ?_, ?_, ?_, ?_, ?_, ?_, ?_, ?_⟩ <;> first | exact ga | (rw [h0]; rfl) | (rw [g1]; rfl)
  have HK := Lib.hid hk
  have HC := Lib.hid (fun W' (h : Ext W W') => Compare_ok r q x r1 q1 x1 e e1 W' (hr.ext (hE.trans h)) (hR1.ext (hE.trans h)))
  unfold entCells at HC
  have HT := Lib.hid (show TreeIn w N (.pointer (some ⟨b1, 0, none⟩)) (.node e1 l rt) from ⟨b1, r1, q1, x1, .pointer pl, .pointer pr, rfl, hb1, hV1, hR1, hN1, hl, hrt⟩)
  obtain ⟨c, hc⟩ : ∃ c, compareL e e1 = c := ⟨_, rfl⟩
  rw [hc] at HC hcmp
  clear hk hV hr hpa hV1 hR1 hN1 hb1 hl hrt hsz hc
  go_enter Try.func42, Try.ntmps42
  go_wp2_with fail
  clear hW
  go_region_held3 (fun w' => w'.cell? ⟨pa, 0, none⟩ = some (.func (.func 21) #[] #[]) ∧ w'.cell? ⟨w.heap.size, 0, none⟩ = some r ∧ w'.cell? ⟨w.heap.size, 1, none⟩ = some (.int .i64 e.fam) ∧ w'.cell? ⟨w.heap.size, 2, none⟩ = some q ∧ w'.cell? ⟨w.heap.size, 3, none⟩ = some (.int .i64 e.ts) ∧ w'.cell? ⟨w.heap.size, 4, none⟩ = some (.int .i64 e.seq) ∧ w'.cell? ⟨w.heap.size, 5, none⟩ = some (.int .i64 e.kind) ∧ w'.cell? ⟨w.heap.size, 6, none⟩ = some x ∧ w'.cell? ⟨b1, 0, none⟩ = some r1 ∧ w'.cell? ⟨b1, 1, none⟩ = some (.int .i64 e1.fam) ∧ w'.cell? ⟨b1, 2, none⟩ = some q1 ∧ w'.cell? ⟨b1, 3, none⟩ = some (.int .i64 e1.ts) ∧ w'.cell? ⟨b1, 4, none⟩ = some (.int .i64 e1.seq) ∧ w'.cell? ⟨b1, 5, none⟩ = some (.int .i64 e1.kind) ∧ w'.cell? ⟨b1, 6, none⟩ = some x1 ∧ w'.cell? ⟨b1, 7, none⟩ = some (.pointer pl) ∧ w'.cell? ⟨b1, 8, none⟩ = some (.pointer pr))
    (first | exact HK.out _ (Ext.refl _).drew | exact HK.out _ ((Ext.refl _).drew.trans he1))
    (first | (go_at_call 21; (with_reducible refine (HC.out _ (Ext.refl _).drew).mono ?_); rintro e0 w1 ⟨rfl, he1⟩))
  have hX1 : Ext W w1 := (Ext.refl _).drew.trans he1
  have hEw1 : Ext w w1 := hE.trans hX1
  obtain ⟨k0, k1, k2, k3, k4, k5, k6, k7, k8, k9, k10, k11, k12, k13, k14, k15, k16⟩ := HK.out w1 hX1
  go_wp2
  go_ret2
  exact ⟨_, rfl, HT.out.ext hEw1, hEw1⟩

set_option maxHeartbeats 4000000 in
set_option maxRecDepth 100000 in
theorem with_lf (r q x : Value) (e : Ent) (pa : Nat) (r1 q1 x1 : Value) (e1 : Ent) (b1 : Nat) (pl pr : Option Addr) (l rt : Tr) (N : Nat) (w : World) (hr : RdE w r q x e) (hN : FromE N r q x) (hNw : N ≤ w.heap.size) (hpa : w.cell? ⟨pa, 0, none⟩ = some (.func (.func 21) #[] #[])) (hV1 : Var w b1 87 (nodeCells r1 q1 x1 (.pointer pl) (.pointer pr) e1 (1 + max l.ht rt.ht))) (hR1 : RdE w r1 q1 x1 e1) (hN1 : FromE N r1 q1 x1) (hb1 : N ≤ b1) (hl : TreeIn w N (.pointer pl) l) (hrt : TreeIn w N (.pointer pr) rt) (hsz : l.size + rt.size ≤ 400) (ih : ∀ w1, Ext w w1 → Calls Try.prog 42 #[.pointer (some ⟨pa, 0, none⟩), .pointer pl, .agg (entCells r q x e)] w1 (OutW w1 N (withT e l))) (hcmp : compareL e e1 < 0) (hs : (withT e l).2 = false) :
    Calls Try.prog 42 #[.pointer (some ⟨pa, 0, none⟩), .pointer (some ⟨b1, 0, none⟩), .agg (entCells r q x e)] w (OutW w N (.node e1 l rt, false)) := by
  have hV := Var.new w (entCells r q x e) 25
  have hE := (Ext.refl w).alloc (.cells (entCells r q x e) 25)
  unfold entCells at hV hE ⊢
  obtain ⟨W, hW⟩ : ∃ W, w.alloc (.cells #[r, .int .i64 e.fam, q, .int .i64 e.ts, .int .i64 e.seq, .int .i64 e.kind, x] 25) = W := ⟨_, rfl⟩
  rw [hW] at hV hE
  have hk : ∀ w', Ext W w' → w'.cell? ⟨pa, 0, none⟩ = some (.func (.func 21) #[] #[]) ∧ w'.cell? ⟨w.heap.size, 0, none⟩ = some r ∧ w'.cell? ⟨w.heap.size, 1, none⟩ = some (.int .i64 e.fam) ∧ w'.cell? ⟨w.heap.size, 2, none⟩ = some q ∧ w'.cell? ⟨w.heap.size, 3, none⟩ = some (.int .i64 e.ts) ∧ w'.cell? ⟨w.heap.size, 4, none⟩ = some (.int .i64 e.seq) ∧ w'.cell? ⟨w.heap.size, 5, none⟩ = some (.int .i64 e.kind) ∧ w'.cell? ⟨w.heap.size, 6, none⟩ = some x ∧ w'.cell? ⟨b1, 0, none⟩ = some r1 ∧ w'.cell? ⟨b1, 1, none⟩ = some (.int .i64 e1.fam) ∧ w'.cell? ⟨b1, 2, none⟩ = some q1 ∧ w'.cell? ⟨b1, 3, none⟩ = some (.int .i64 e1.ts) ∧ w'.cell? ⟨b1, 4, none⟩ = some (.int .i64 e1.seq) ∧ w'.cell? ⟨b1, 5, none⟩ = some (.int .i64 e1.kind) ∧ w'.cell? ⟨b1, 6, none⟩ = some x1 ∧ w'.cell? ⟨b1, 7, none⟩ = some (.pointer pl) ∧ w'.cell? ⟨b1, 8, none⟩ = some (.pointer pr) := by
    intro w' h
    have h0 := (hV.ext h).cell
    have g1 := (hV1.ext (hE.trans h)).cell
    have ga := (hE.trans h).cell hpa
    refine ⟨?_, ?_, ?_, ?_, ?_, ?_, ?_, ?_, ?_, ?_, ?_, ?_, ?_, ?_, ?_, ?_, ?_⟩ <;> first | exact ga | (rw [h0]; rfl) | (rw [g1]; rfl)
  have HK := Lib.hid hk
  have HC := Lib.hid (fun W' (h : Ext W W') => Compare_ok r q x r1 q1 x1 e e1 W' (hr.ext (hE.trans h)) (hR1.ext (hE.trans h)))
  unfold entCells at HC
  have HT := Lib.hid (show TreeIn w N (.pointer (some ⟨b1, 0, none⟩)) (.node e1 l rt) from ⟨b1, r1, q1, x1, .pointer pl, .pointer pr, rfl, hb1, hV1, hR1, hN1, hl, hrt⟩)
  have HIH := Lib.hid (fun W' (h : Ext W W') => ih W' (hE.trans h))
  unfold entCells at HIH
  obtain ⟨c, hc⟩ : ∃ c, compareL e e1 = c := ⟨_, rfl⟩
  rw [hc] at HC hcmp
  obtain ⟨p, hp⟩ : ∃ p, withT e l = p := ⟨_, rfl⟩
  rw [hp] at HIH hs 
  clear hp ih
  obtain ⟨T, ok⟩ := p
  obtain rfl : ok = false := hs
  clear hk hV hr hpa hV1 hR1 hN1 hb1 hl hrt hsz hc
  go_enter Try.func42, Try.ntmps42
  go_wp2_with fail
  clear hW
  go_region_held3 (fun w' => w'.cell? ⟨pa, 0, none⟩ = some (.func (.func 21) #[] #[]) ∧ w'.cell? ⟨w.heap.size, 0, none⟩ = some r ∧ w'.cell? ⟨w.heap.size, 1, none⟩ = some (.int .i64 e.fam) ∧ w'.cell? ⟨w.heap.size, 2, none⟩ = some q ∧ w'.cell? ⟨w.heap.size, 3, none⟩ = some (.int .i64 e.ts) ∧ w'.cell? ⟨w.heap.size, 4, none⟩ = some (.int .i64 e.seq) ∧ w'.cell? ⟨w.heap.size, 5, none⟩ = some (.int .i64 e.kind) ∧ w'.cell? ⟨w.heap.size, 6, none⟩ = some x ∧ w'.cell? ⟨b1, 0, none⟩ = some r1 ∧ w'.cell? ⟨b1, 1, none⟩ = some (.int .i64 e1.fam) ∧ w'.cell? ⟨b1, 2, none⟩ = some q1 ∧ w'.cell? ⟨b1, 3, none⟩ = some (.int .i64 e1.ts) ∧ w'.cell? ⟨b1, 4, none⟩ = some (.int .i64 e1.seq) ∧ w'.cell? ⟨b1, 5, none⟩ = some (.int .i64 e1.kind) ∧ w'.cell? ⟨b1, 6, none⟩ = some x1 ∧ w'.cell? ⟨b1, 7, none⟩ = some (.pointer pl) ∧ w'.cell? ⟨b1, 8, none⟩ = some (.pointer pr))
    (first | exact HK.out _ (Ext.refl _).drew | exact HK.out _ ((Ext.refl _).drew.trans he1))
    (first | (go_at_call 21; (with_reducible refine (HC.out _ (Ext.refl _).drew).mono ?_); rintro e0 w1 ⟨rfl, he1⟩))
  have hX1 : Ext W w1 := (Ext.refl _).drew.trans he1
  have hEw1 : Ext w w1 := hE.trans hX1
  obtain ⟨k0, k1, k2, k3, k4, k5, k6, k7, k8, k9, k10, k11, k12, k13, k14, k15, k16⟩ := HK.out w1 hX1
  go_wp2_with fail
  go_region_held3 (fun w' => w'.cell? ⟨pa, 0, none⟩ = some (.func (.func 21) #[] #[]) ∧ w'.cell? ⟨w.heap.size, 0, none⟩ = some r ∧ w'.cell? ⟨w.heap.size, 1, none⟩ = some (.int .i64 e.fam) ∧ w'.cell? ⟨w.heap.size, 2, none⟩ = some q ∧ w'.cell? ⟨w.heap.size, 3, none⟩ = some (.int .i64 e.ts) ∧ w'.cell? ⟨w.heap.size, 4, none⟩ = some (.int .i64 e.seq) ∧ w'.cell? ⟨w.heap.size, 5, none⟩ = some (.int .i64 e.kind) ∧ w'.cell? ⟨w.heap.size, 6, none⟩ = some x ∧ w'.cell? ⟨b1, 0, none⟩ = some r1 ∧ w'.cell? ⟨b1, 1, none⟩ = some (.int .i64 e1.fam) ∧ w'.cell? ⟨b1, 2, none⟩ = some q1 ∧ w'.cell? ⟨b1, 3, none⟩ = some (.int .i64 e1.ts) ∧ w'.cell? ⟨b1, 4, none⟩ = some (.int .i64 e1.seq) ∧ w'.cell? ⟨b1, 5, none⟩ = some (.int .i64 e1.kind) ∧ w'.cell? ⟨b1, 6, none⟩ = some x1 ∧ w'.cell? ⟨b1, 7, none⟩ = some (.pointer pl) ∧ w'.cell? ⟨b1, 8, none⟩ = some (.pointer pr))
    (first | exact HK.out _ hX1.drew | exact HK.out _ (hX1.drew.trans he2))
    (first | (go_at_call 42; (with_reducible refine (HIH.out _ hX1.drew).mono ?_); rintro e0 w2 ⟨v2, rfl, ht2, he2⟩; obtain ⟨p2, rfl⟩ := ht2.form; dsimp only at ht2 ⊢))
  have hX2 : Ext W w2 := hX1.drew.trans he2
  have hEw2 : Ext w w2 := hE.trans hX2
  obtain ⟨j0, j1, j2, j3, j4, j5, j6, j7, j8, j9, j10, j11, j12, j13, j14, j15, j16⟩ := HK.out w2 hX2
  go_wp2_with fail
  go_wp2
  go_ret2
  exact ⟨_, rfl, HT.out.ext hEw2, hEw2⟩

set_option maxHeartbeats 4000000 in
set_option maxRecDepth 100000 in
theorem with_lt (r q x : Value) (e : Ent) (pa : Nat) (r1 q1 x1 : Value) (e1 : Ent) (b1 : Nat) (pl pr : Option Addr) (l rt : Tr) (N : Nat) (w : World) (hr : RdE w r q x e) (hN : FromE N r q x) (hNw : N ≤ w.heap.size) (hpa : w.cell? ⟨pa, 0, none⟩ = some (.func (.func 21) #[] #[])) (hV1 : Var w b1 87 (nodeCells r1 q1 x1 (.pointer pl) (.pointer pr) e1 (1 + max l.ht rt.ht))) (hR1 : RdE w r1 q1 x1 e1) (hN1 : FromE N r1 q1 x1) (hb1 : N ≤ b1) (hl : TreeIn w N (.pointer pl) l) (hrt : TreeIn w N (.pointer pr) rt) (hsz : l.size + rt.size ≤ 400) (ih : ∀ w1, Ext w w1 → Calls Try.prog 42 #[.pointer (some ⟨pa, 0, none⟩), .pointer pl, .agg (entCells r q x e)] w1 (OutW w1 N (withT e l))) (hcmp : compareL e e1 < 0) (hs : (withT e l).2 = true) :
    Calls Try.prog 42 #[.pointer (some ⟨pa, 0, none⟩), .pointer (some ⟨b1, 0, none⟩), .agg (entCells r q x e)] w (OutW w N (evenT e1 (withT e l).1 rt, true)) := by
  have hV := Var.new w (entCells r q x e) 25
  have hE := (Ext.refl w).alloc (.cells (entCells r q x e) 25)
  unfold entCells at hV hE ⊢
  obtain ⟨W, hW⟩ : ∃ W, w.alloc (.cells #[r, .int .i64 e.fam, q, .int .i64 e.ts, .int .i64 e.seq, .int .i64 e.kind, x] 25) = W := ⟨_, rfl⟩
  rw [hW] at hV hE
  have hk : ∀ w', Ext W w' → w'.cell? ⟨pa, 0, none⟩ = some (.func (.func 21) #[] #[]) ∧ w'.cell? ⟨w.heap.size, 0, none⟩ = some r ∧ w'.cell? ⟨w.heap.size, 1, none⟩ = some (.int .i64 e.fam) ∧ w'.cell? ⟨w.heap.size, 2, none⟩ = some q ∧ w'.cell? ⟨w.heap.size, 3, none⟩ = some (.int .i64 e.ts) ∧ w'.cell? ⟨w.heap.size, 4, none⟩ = some (.int .i64 e.seq) ∧ w'.cell? ⟨w.heap.size, 5, none⟩ = some (.int .i64 e.kind) ∧ w'.cell? ⟨w.heap.size, 6, none⟩ = some x ∧ w'.cell? ⟨b1, 0, none⟩ = some r1 ∧ w'.cell? ⟨b1, 1, none⟩ = some (.int .i64 e1.fam) ∧ w'.cell? ⟨b1, 2, none⟩ = some q1 ∧ w'.cell? ⟨b1, 3, none⟩ = some (.int .i64 e1.ts) ∧ w'.cell? ⟨b1, 4, none⟩ = some (.int .i64 e1.seq) ∧ w'.cell? ⟨b1, 5, none⟩ = some (.int .i64 e1.kind) ∧ w'.cell? ⟨b1, 6, none⟩ = some x1 ∧ w'.cell? ⟨b1, 7, none⟩ = some (.pointer pl) ∧ w'.cell? ⟨b1, 8, none⟩ = some (.pointer pr) := by
    intro w' h
    have h0 := (hV.ext h).cell
    have g1 := (hV1.ext (hE.trans h)).cell
    have ga := (hE.trans h).cell hpa
    refine ⟨?_, ?_, ?_, ?_, ?_, ?_, ?_, ?_, ?_, ?_, ?_, ?_, ?_, ?_, ?_, ?_, ?_⟩ <;> first | exact ga | (rw [h0]; rfl) | (rw [g1]; rfl)
  have HK := Lib.hid hk
  have HC := Lib.hid (fun W' (h : Ext W W') => Compare_ok r q x r1 q1 x1 e e1 W' (hr.ext (hE.trans h)) (hR1.ext (hE.trans h)))
  unfold entCells at HC
  have HT := Lib.hid (show TreeIn w N (.pointer (some ⟨b1, 0, none⟩)) (.node e1 l rt) from ⟨b1, r1, q1, x1, .pointer pl, .pointer pr, rfl, hb1, hV1, hR1, hN1, hl, hrt⟩)
  have HIH := Lib.hid (fun W' (h : Ext W W') => ih W' (hE.trans h))
  unfold entCells at HIH
  have hbd : Tr.ht (withT e l).1 + Tr.ht rt ≤ 1000 := by
    have h1 := Tr.ht_size (withT e l).1
    have h2 := Tr.ht_size rt
    have h3 := withT_size e l
    omega
  have HEV : Hid (∀ W' p2, Ext W W' → TreeIn W' N (.pointer p2) (withT e l).1 → Calls Try.prog 66 #[.agg #[r1, .int .i64 e1.fam, q1, .int .i64 e1.ts, .int .i64 e1.seq, .int .i64 e1.kind, x1], .pointer p2, .pointer pr] W' (OutT W' N (evenT e1 (withT e l).1 rt))) := Lib.hid (fun W' p2 h ht => even_ok r1 q1 x1 (.pointer p2) (.pointer pr) e1 (withT e l).1 rt N W' (hR1.ext (hE.trans h)) hN1 (Nat.le_trans hNw (hE.trans h).size) ht (hrt.ext (hE.trans h)) hbd)
  obtain ⟨c, hc⟩ : ∃ c, compareL e e1 = c := ⟨_, rfl⟩
  rw [hc] at HC hcmp
  obtain ⟨p, hp⟩ : ∃ p, withT e l = p := ⟨_, rfl⟩
  rw [hp] at HIH hs HEV ⊢
  clear hp ih
  obtain ⟨T, ok⟩ := p
  obtain rfl : ok = true := hs
  clear hk hV hr hpa hV1 hR1 hN1 hb1 hl hrt hsz hc hbd
  go_enter Try.func42, Try.ntmps42
  go_wp2_with fail
  clear hW
  go_region_held3 (fun w' => w'.cell? ⟨pa, 0, none⟩ = some (.func (.func 21) #[] #[]) ∧ w'.cell? ⟨w.heap.size, 0, none⟩ = some r ∧ w'.cell? ⟨w.heap.size, 1, none⟩ = some (.int .i64 e.fam) ∧ w'.cell? ⟨w.heap.size, 2, none⟩ = some q ∧ w'.cell? ⟨w.heap.size, 3, none⟩ = some (.int .i64 e.ts) ∧ w'.cell? ⟨w.heap.size, 4, none⟩ = some (.int .i64 e.seq) ∧ w'.cell? ⟨w.heap.size, 5, none⟩ = some (.int .i64 e.kind) ∧ w'.cell? ⟨w.heap.size, 6, none⟩ = some x ∧ w'.cell? ⟨b1, 0, none⟩ = some r1 ∧ w'.cell? ⟨b1, 1, none⟩ = some (.int .i64 e1.fam) ∧ w'.cell? ⟨b1, 2, none⟩ = some q1 ∧ w'.cell? ⟨b1, 3, none⟩ = some (.int .i64 e1.ts) ∧ w'.cell? ⟨b1, 4, none⟩ = some (.int .i64 e1.seq) ∧ w'.cell? ⟨b1, 5, none⟩ = some (.int .i64 e1.kind) ∧ w'.cell? ⟨b1, 6, none⟩ = some x1 ∧ w'.cell? ⟨b1, 7, none⟩ = some (.pointer pl) ∧ w'.cell? ⟨b1, 8, none⟩ = some (.pointer pr))
    (first | exact HK.out _ (Ext.refl _).drew | exact HK.out _ ((Ext.refl _).drew.trans he1))
    (first | (go_at_call 21; (with_reducible refine (HC.out _ (Ext.refl _).drew).mono ?_); rintro e0 w1 ⟨rfl, he1⟩))
  have hX1 : Ext W w1 := (Ext.refl _).drew.trans he1
  have hEw1 : Ext w w1 := hE.trans hX1
  obtain ⟨k0, k1, k2, k3, k4, k5, k6, k7, k8, k9, k10, k11, k12, k13, k14, k15, k16⟩ := HK.out w1 hX1
  go_wp2_with fail
  go_region_held3 (fun w' => w'.cell? ⟨pa, 0, none⟩ = some (.func (.func 21) #[] #[]) ∧ w'.cell? ⟨w.heap.size, 0, none⟩ = some r ∧ w'.cell? ⟨w.heap.size, 1, none⟩ = some (.int .i64 e.fam) ∧ w'.cell? ⟨w.heap.size, 2, none⟩ = some q ∧ w'.cell? ⟨w.heap.size, 3, none⟩ = some (.int .i64 e.ts) ∧ w'.cell? ⟨w.heap.size, 4, none⟩ = some (.int .i64 e.seq) ∧ w'.cell? ⟨w.heap.size, 5, none⟩ = some (.int .i64 e.kind) ∧ w'.cell? ⟨w.heap.size, 6, none⟩ = some x ∧ w'.cell? ⟨b1, 0, none⟩ = some r1 ∧ w'.cell? ⟨b1, 1, none⟩ = some (.int .i64 e1.fam) ∧ w'.cell? ⟨b1, 2, none⟩ = some q1 ∧ w'.cell? ⟨b1, 3, none⟩ = some (.int .i64 e1.ts) ∧ w'.cell? ⟨b1, 4, none⟩ = some (.int .i64 e1.seq) ∧ w'.cell? ⟨b1, 5, none⟩ = some (.int .i64 e1.kind) ∧ w'.cell? ⟨b1, 6, none⟩ = some x1 ∧ w'.cell? ⟨b1, 7, none⟩ = some (.pointer pl) ∧ w'.cell? ⟨b1, 8, none⟩ = some (.pointer pr))
    (first | exact HK.out _ hX1.drew | exact HK.out _ (hX1.drew.trans he2))
    (first | (go_at_call 42; (with_reducible refine (HIH.out _ hX1.drew).mono ?_); rintro e0 w2 ⟨v2, rfl, ht2, he2⟩; obtain ⟨p2, rfl⟩ := ht2.form; dsimp only at ht2 ⊢))
  have hX2 : Ext W w2 := hX1.drew.trans he2
  have hEw2 : Ext w w2 := hE.trans hX2
  obtain ⟨j0, j1, j2, j3, j4, j5, j6, j7, j8, j9, j10, j11, j12, j13, j14, j15, j16⟩ := HK.out w2 hX2
  go_wp2_with fail
  go_region_held3 (fun w' => w'.cell? ⟨pa, 0, none⟩ = some (.func (.func 21) #[] #[]) ∧ w'.cell? ⟨w.heap.size, 0, none⟩ = some r ∧ w'.cell? ⟨w.heap.size, 1, none⟩ = some (.int .i64 e.fam) ∧ w'.cell? ⟨w.heap.size, 2, none⟩ = some q ∧ w'.cell? ⟨w.heap.size, 3, none⟩ = some (.int .i64 e.ts) ∧ w'.cell? ⟨w.heap.size, 4, none⟩ = some (.int .i64 e.seq) ∧ w'.cell? ⟨w.heap.size, 5, none⟩ = some (.int .i64 e.kind) ∧ w'.cell? ⟨w.heap.size, 6, none⟩ = some x ∧ w'.cell? ⟨b1, 0, none⟩ = some r1 ∧ w'.cell? ⟨b1, 1, none⟩ = some (.int .i64 e1.fam) ∧ w'.cell? ⟨b1, 2, none⟩ = some q1 ∧ w'.cell? ⟨b1, 3, none⟩ = some (.int .i64 e1.ts) ∧ w'.cell? ⟨b1, 4, none⟩ = some (.int .i64 e1.seq) ∧ w'.cell? ⟨b1, 5, none⟩ = some (.int .i64 e1.kind) ∧ w'.cell? ⟨b1, 6, none⟩ = some x1 ∧ w'.cell? ⟨b1, 7, none⟩ = some (.pointer pl) ∧ w'.cell? ⟨b1, 8, none⟩ = some (.pointer pr))
    (first | exact HK.out _ hX2.drew | exact HK.out _ (hX2.drew.trans he3))
    (first | (go_at_call 66; (with_reducible refine (HEV.out _ _ hX2.drew (TreeIn.ext ht2 (Ext.refl _).drew)).mono ?_); rintro e0 w3 ⟨v3, rfl, ht3, he3⟩; obtain ⟨p3, rfl⟩ := ht3.form))
  go_wp2
  go_ret2
  exact ⟨_, rfl, ht3, hE.trans (hX2.drew.trans he3)⟩

set_option maxHeartbeats 4000000 in
set_option maxRecDepth 100000 in
theorem with_rf (r q x : Value) (e : Ent) (pa : Nat) (r1 q1 x1 : Value) (e1 : Ent) (b1 : Nat) (pl pr : Option Addr) (l rt : Tr) (N : Nat) (w : World) (hr : RdE w r q x e) (hN : FromE N r q x) (hNw : N ≤ w.heap.size) (hpa : w.cell? ⟨pa, 0, none⟩ = some (.func (.func 21) #[] #[])) (hV1 : Var w b1 87 (nodeCells r1 q1 x1 (.pointer pl) (.pointer pr) e1 (1 + max l.ht rt.ht))) (hR1 : RdE w r1 q1 x1 e1) (hN1 : FromE N r1 q1 x1) (hb1 : N ≤ b1) (hl : TreeIn w N (.pointer pl) l) (hrt : TreeIn w N (.pointer pr) rt) (hsz : l.size + rt.size ≤ 400) (ih : ∀ w1, Ext w w1 → Calls Try.prog 42 #[.pointer (some ⟨pa, 0, none⟩), .pointer pr, .agg (entCells r q x e)] w1 (OutW w1 N (withT e rt))) (hcmp : 0 < compareL e e1) (hs : (withT e rt).2 = false) :
    Calls Try.prog 42 #[.pointer (some ⟨pa, 0, none⟩), .pointer (some ⟨b1, 0, none⟩), .agg (entCells r q x e)] w (OutW w N (.node e1 l rt, false)) := by
  have hV := Var.new w (entCells r q x e) 25
  have hE := (Ext.refl w).alloc (.cells (entCells r q x e) 25)
  unfold entCells at hV hE ⊢
  obtain ⟨W, hW⟩ : ∃ W, w.alloc (.cells #[r, .int .i64 e.fam, q, .int .i64 e.ts, .int .i64 e.seq, .int .i64 e.kind, x] 25) = W := ⟨_, rfl⟩
  rw [hW] at hV hE
  have hk : ∀ w', Ext W w' → w'.cell? ⟨pa, 0, none⟩ = some (.func (.func 21) #[] #[]) ∧ w'.cell? ⟨w.heap.size, 0, none⟩ = some r ∧ w'.cell? ⟨w.heap.size, 1, none⟩ = some (.int .i64 e.fam) ∧ w'.cell? ⟨w.heap.size, 2, none⟩ = some q ∧ w'.cell? ⟨w.heap.size, 3, none⟩ = some (.int .i64 e.ts) ∧ w'.cell? ⟨w.heap.size, 4, none⟩ = some (.int .i64 e.seq) ∧ w'.cell? ⟨w.heap.size, 5, none⟩ = some (.int .i64 e.kind) ∧ w'.cell? ⟨w.heap.size, 6, none⟩ = some x ∧ w'.cell? ⟨b1, 0, none⟩ = some r1 ∧ w'.cell? ⟨b1, 1, none⟩ = some (.int .i64 e1.fam) ∧ w'.cell? ⟨b1, 2, none⟩ = some q1 ∧ w'.cell? ⟨b1, 3, none⟩ = some (.int .i64 e1.ts) ∧ w'.cell? ⟨b1, 4, none⟩ = some (.int .i64 e1.seq) ∧ w'.cell? ⟨b1, 5, none⟩ = some (.int .i64 e1.kind) ∧ w'.cell? ⟨b1, 6, none⟩ = some x1 ∧ w'.cell? ⟨b1, 7, none⟩ = some (.pointer pl) ∧ w'.cell? ⟨b1, 8, none⟩ = some (.pointer pr) := by
    intro w' h
    have h0 := (hV.ext h).cell
    have g1 := (hV1.ext (hE.trans h)).cell
    have ga := (hE.trans h).cell hpa
    refine ⟨?_, ?_, ?_, ?_, ?_, ?_, ?_, ?_, ?_, ?_, ?_, ?_, ?_, ?_, ?_, ?_, ?_⟩ <;> first | exact ga | (rw [h0]; rfl) | (rw [g1]; rfl)
  have HK := Lib.hid hk
  have HC := Lib.hid (fun W' (h : Ext W W') => Compare_ok r q x r1 q1 x1 e e1 W' (hr.ext (hE.trans h)) (hR1.ext (hE.trans h)))
  unfold entCells at HC
  have HT := Lib.hid (show TreeIn w N (.pointer (some ⟨b1, 0, none⟩)) (.node e1 l rt) from ⟨b1, r1, q1, x1, .pointer pl, .pointer pr, rfl, hb1, hV1, hR1, hN1, hl, hrt⟩)
  have HIH := Lib.hid (fun W' (h : Ext W W') => ih W' (hE.trans h))
  unfold entCells at HIH
  obtain ⟨c, hc⟩ : ∃ c, compareL e e1 = c := ⟨_, rfl⟩
  rw [hc] at HC hcmp
  obtain ⟨p, hp⟩ : ∃ p, withT e rt = p := ⟨_, rfl⟩
  rw [hp] at HIH hs 
  clear hp ih
  obtain ⟨T, ok⟩ := p
  obtain rfl : ok = false := hs
  clear hk hV hr hpa hV1 hR1 hN1 hb1 hl hrt hsz hc
  go_enter Try.func42, Try.ntmps42
  go_wp2_with fail
  clear hW
  go_region_held3 (fun w' => w'.cell? ⟨pa, 0, none⟩ = some (.func (.func 21) #[] #[]) ∧ w'.cell? ⟨w.heap.size, 0, none⟩ = some r ∧ w'.cell? ⟨w.heap.size, 1, none⟩ = some (.int .i64 e.fam) ∧ w'.cell? ⟨w.heap.size, 2, none⟩ = some q ∧ w'.cell? ⟨w.heap.size, 3, none⟩ = some (.int .i64 e.ts) ∧ w'.cell? ⟨w.heap.size, 4, none⟩ = some (.int .i64 e.seq) ∧ w'.cell? ⟨w.heap.size, 5, none⟩ = some (.int .i64 e.kind) ∧ w'.cell? ⟨w.heap.size, 6, none⟩ = some x ∧ w'.cell? ⟨b1, 0, none⟩ = some r1 ∧ w'.cell? ⟨b1, 1, none⟩ = some (.int .i64 e1.fam) ∧ w'.cell? ⟨b1, 2, none⟩ = some q1 ∧ w'.cell? ⟨b1, 3, none⟩ = some (.int .i64 e1.ts) ∧ w'.cell? ⟨b1, 4, none⟩ = some (.int .i64 e1.seq) ∧ w'.cell? ⟨b1, 5, none⟩ = some (.int .i64 e1.kind) ∧ w'.cell? ⟨b1, 6, none⟩ = some x1 ∧ w'.cell? ⟨b1, 7, none⟩ = some (.pointer pl) ∧ w'.cell? ⟨b1, 8, none⟩ = some (.pointer pr))
    (first | exact HK.out _ (Ext.refl _).drew | exact HK.out _ ((Ext.refl _).drew.trans he1))
    (first | (go_at_call 21; (with_reducible refine (HC.out _ (Ext.refl _).drew).mono ?_); rintro e0 w1 ⟨rfl, he1⟩))
  have hX1 : Ext W w1 := (Ext.refl _).drew.trans he1
  have hEw1 : Ext w w1 := hE.trans hX1
  obtain ⟨k0, k1, k2, k3, k4, k5, k6, k7, k8, k9, k10, k11, k12, k13, k14, k15, k16⟩ := HK.out w1 hX1
  go_wp2_with fail
  go_region_held3 (fun w' => w'.cell? ⟨pa, 0, none⟩ = some (.func (.func 21) #[] #[]) ∧ w'.cell? ⟨w.heap.size, 0, none⟩ = some r ∧ w'.cell? ⟨w.heap.size, 1, none⟩ = some (.int .i64 e.fam) ∧ w'.cell? ⟨w.heap.size, 2, none⟩ = some q ∧ w'.cell? ⟨w.heap.size, 3, none⟩ = some (.int .i64 e.ts) ∧ w'.cell? ⟨w.heap.size, 4, none⟩ = some (.int .i64 e.seq) ∧ w'.cell? ⟨w.heap.size, 5, none⟩ = some (.int .i64 e.kind) ∧ w'.cell? ⟨w.heap.size, 6, none⟩ = some x ∧ w'.cell? ⟨b1, 0, none⟩ = some r1 ∧ w'.cell? ⟨b1, 1, none⟩ = some (.int .i64 e1.fam) ∧ w'.cell? ⟨b1, 2, none⟩ = some q1 ∧ w'.cell? ⟨b1, 3, none⟩ = some (.int .i64 e1.ts) ∧ w'.cell? ⟨b1, 4, none⟩ = some (.int .i64 e1.seq) ∧ w'.cell? ⟨b1, 5, none⟩ = some (.int .i64 e1.kind) ∧ w'.cell? ⟨b1, 6, none⟩ = some x1 ∧ w'.cell? ⟨b1, 7, none⟩ = some (.pointer pl) ∧ w'.cell? ⟨b1, 8, none⟩ = some (.pointer pr))
    (first | exact HK.out _ hX1.drew | exact HK.out _ (hX1.drew.trans he2))
    (first | (go_at_call 42; (with_reducible refine (HIH.out _ hX1.drew).mono ?_); rintro e0 w2 ⟨v2, rfl, ht2, he2⟩; obtain ⟨p2, rfl⟩ := ht2.form; dsimp only at ht2 ⊢))
  have hX2 : Ext W w2 := hX1.drew.trans he2
  have hEw2 : Ext w w2 := hE.trans hX2
  obtain ⟨j0, j1, j2, j3, j4, j5, j6, j7, j8, j9, j10, j11, j12, j13, j14, j15, j16⟩ := HK.out w2 hX2
  go_wp2_with fail
  go_wp2
  go_ret2
  exact ⟨_, rfl, HT.out.ext hEw2, hEw2⟩

set_option maxHeartbeats 4000000 in
set_option maxRecDepth 100000 in
theorem with_rt (r q x : Value) (e : Ent) (pa : Nat) (r1 q1 x1 : Value) (e1 : Ent) (b1 : Nat) (pl pr : Option Addr) (l rt : Tr) (N : Nat) (w : World) (hr : RdE w r q x e) (hN : FromE N r q x) (hNw : N ≤ w.heap.size) (hpa : w.cell? ⟨pa, 0, none⟩ = some (.func (.func 21) #[] #[])) (hV1 : Var w b1 87 (nodeCells r1 q1 x1 (.pointer pl) (.pointer pr) e1 (1 + max l.ht rt.ht))) (hR1 : RdE w r1 q1 x1 e1) (hN1 : FromE N r1 q1 x1) (hb1 : N ≤ b1) (hl : TreeIn w N (.pointer pl) l) (hrt : TreeIn w N (.pointer pr) rt) (hsz : l.size + rt.size ≤ 400) (ih : ∀ w1, Ext w w1 → Calls Try.prog 42 #[.pointer (some ⟨pa, 0, none⟩), .pointer pr, .agg (entCells r q x e)] w1 (OutW w1 N (withT e rt))) (hcmp : 0 < compareL e e1) (hs : (withT e rt).2 = true) :
    Calls Try.prog 42 #[.pointer (some ⟨pa, 0, none⟩), .pointer (some ⟨b1, 0, none⟩), .agg (entCells r q x e)] w (OutW w N (evenT e1 l (withT e rt).1, true)) := by
  have hV := Var.new w (entCells r q x e) 25
  have hE := (Ext.refl w).alloc (.cells (entCells r q x e) 25)
  unfold entCells at hV hE ⊢
  obtain ⟨W, hW⟩ : ∃ W, w.alloc (.cells #[r, .int .i64 e.fam, q, .int .i64 e.ts, .int .i64 e.seq, .int .i64 e.kind, x] 25) = W := ⟨_, rfl⟩
  rw [hW] at hV hE
  have hk : ∀ w', Ext W w' → w'.cell? ⟨pa, 0, none⟩ = some (.func (.func 21) #[] #[]) ∧ w'.cell? ⟨w.heap.size, 0, none⟩ = some r ∧ w'.cell? ⟨w.heap.size, 1, none⟩ = some (.int .i64 e.fam) ∧ w'.cell? ⟨w.heap.size, 2, none⟩ = some q ∧ w'.cell? ⟨w.heap.size, 3, none⟩ = some (.int .i64 e.ts) ∧ w'.cell? ⟨w.heap.size, 4, none⟩ = some (.int .i64 e.seq) ∧ w'.cell? ⟨w.heap.size, 5, none⟩ = some (.int .i64 e.kind) ∧ w'.cell? ⟨w.heap.size, 6, none⟩ = some x ∧ w'.cell? ⟨b1, 0, none⟩ = some r1 ∧ w'.cell? ⟨b1, 1, none⟩ = some (.int .i64 e1.fam) ∧ w'.cell? ⟨b1, 2, none⟩ = some q1 ∧ w'.cell? ⟨b1, 3, none⟩ = some (.int .i64 e1.ts) ∧ w'.cell? ⟨b1, 4, none⟩ = some (.int .i64 e1.seq) ∧ w'.cell? ⟨b1, 5, none⟩ = some (.int .i64 e1.kind) ∧ w'.cell? ⟨b1, 6, none⟩ = some x1 ∧ w'.cell? ⟨b1, 7, none⟩ = some (.pointer pl) ∧ w'.cell? ⟨b1, 8, none⟩ = some (.pointer pr) := by
    intro w' h
    have h0 := (hV.ext h).cell
    have g1 := (hV1.ext (hE.trans h)).cell
    have ga := (hE.trans h).cell hpa
    refine ⟨?_, ?_, ?_, ?_, ?_, ?_, ?_, ?_, ?_, ?_, ?_, ?_, ?_, ?_, ?_, ?_, ?_⟩ <;> first | exact ga | (rw [h0]; rfl) | (rw [g1]; rfl)
  have HK := Lib.hid hk
  have HC := Lib.hid (fun W' (h : Ext W W') => Compare_ok r q x r1 q1 x1 e e1 W' (hr.ext (hE.trans h)) (hR1.ext (hE.trans h)))
  unfold entCells at HC
  have HT := Lib.hid (show TreeIn w N (.pointer (some ⟨b1, 0, none⟩)) (.node e1 l rt) from ⟨b1, r1, q1, x1, .pointer pl, .pointer pr, rfl, hb1, hV1, hR1, hN1, hl, hrt⟩)
  have HIH := Lib.hid (fun W' (h : Ext W W') => ih W' (hE.trans h))
  unfold entCells at HIH
  have hbd : Tr.ht l + Tr.ht (withT e rt).1 ≤ 1000 := by
    have h1 := Tr.ht_size l
    have h2 := Tr.ht_size (withT e rt).1
    have h3 := withT_size e rt
    omega
  have HEV : Hid (∀ W' p2, Ext W W' → TreeIn W' N (.pointer p2) (withT e rt).1 → Calls Try.prog 66 #[.agg #[r1, .int .i64 e1.fam, q1, .int .i64 e1.ts, .int .i64 e1.seq, .int .i64 e1.kind, x1], .pointer pl, .pointer p2] W' (OutT W' N (evenT e1 l (withT e rt).1))) := Lib.hid (fun W' p2 h ht => even_ok r1 q1 x1 (.pointer pl) (.pointer p2) e1 l (withT e rt).1 N W' (hR1.ext (hE.trans h)) hN1 (Nat.le_trans hNw (hE.trans h).size) (hl.ext (hE.trans h)) ht hbd)
  obtain ⟨c, hc⟩ : ∃ c, compareL e e1 = c := ⟨_, rfl⟩
  rw [hc] at HC hcmp
  obtain ⟨p, hp⟩ : ∃ p, withT e rt = p := ⟨_, rfl⟩
  rw [hp] at HIH hs HEV ⊢
  clear hp ih
  obtain ⟨T, ok⟩ := p
  obtain rfl : ok = true := hs
  clear hk hV hr hpa hV1 hR1 hN1 hb1 hl hrt hsz hc hbd
  go_enter Try.func42, Try.ntmps42
  go_wp2_with fail
  clear hW
  go_region_held3 (fun w' => w'.cell? ⟨pa, 0, none⟩ = some (.func (.func 21) #[] #[]) ∧ w'.cell? ⟨w.heap.size, 0, none⟩ = some r ∧ w'.cell? ⟨w.heap.size, 1, none⟩ = some (.int .i64 e.fam) ∧ w'.cell? ⟨w.heap.size, 2, none⟩ = some q ∧ w'.cell? ⟨w.heap.size, 3, none⟩ = some (.int .i64 e.ts) ∧ w'.cell? ⟨w.heap.size, 4, none⟩ = some (.int .i64 e.seq) ∧ w'.cell? ⟨w.heap.size, 5, none⟩ = some (.int .i64 e.kind) ∧ w'.cell? ⟨w.heap.size, 6, none⟩ = some x ∧ w'.cell? ⟨b1, 0, none⟩ = some r1 ∧ w'.cell? ⟨b1, 1, none⟩ = some (.int .i64 e1.fam) ∧ w'.cell? ⟨b1, 2, none⟩ = some q1 ∧ w'.cell? ⟨b1, 3, none⟩ = some (.int .i64 e1.ts) ∧ w'.cell? ⟨b1, 4, none⟩ = some (.int .i64 e1.seq) ∧ w'.cell? ⟨b1, 5, none⟩ = some (.int .i64 e1.kind) ∧ w'.cell? ⟨b1, 6, none⟩ = some x1 ∧ w'.cell? ⟨b1, 7, none⟩ = some (.pointer pl) ∧ w'.cell? ⟨b1, 8, none⟩ = some (.pointer pr))
    (first | exact HK.out _ (Ext.refl _).drew | exact HK.out _ ((Ext.refl _).drew.trans he1))
    (first | (go_at_call 21; (with_reducible refine (HC.out _ (Ext.refl _).drew).mono ?_); rintro e0 w1 ⟨rfl, he1⟩))
  have hX1 : Ext W w1 := (Ext.refl _).drew.trans he1
  have hEw1 : Ext w w1 := hE.trans hX1
  obtain ⟨k0, k1, k2, k3, k4, k5, k6, k7, k8, k9, k10, k11, k12, k13, k14, k15, k16⟩ := HK.out w1 hX1
  go_wp2_with fail
  go_region_held3 (fun w' => w'.cell? ⟨pa, 0, none⟩ = some (.func (.func 21) #[] #[]) ∧ w'.cell? ⟨w.heap.size, 0, none⟩ = some r ∧ w'.cell? ⟨w.heap.size, 1, none⟩ = some (.int .i64 e.fam) ∧ w'.cell? ⟨w.heap.size, 2, none⟩ = some q ∧ w'.cell? ⟨w.heap.size, 3, none⟩ = some (.int .i64 e.ts) ∧ w'.cell? ⟨w.heap.size, 4, none⟩ = some (.int .i64 e.seq) ∧ w'.cell? ⟨w.heap.size, 5, none⟩ = some (.int .i64 e.kind) ∧ w'.cell? ⟨w.heap.size, 6, none⟩ = some x ∧ w'.cell? ⟨b1, 0, none⟩ = some r1 ∧ w'.cell? ⟨b1, 1, none⟩ = some (.int .i64 e1.fam) ∧ w'.cell? ⟨b1, 2, none⟩ = some q1 ∧ w'.cell? ⟨b1, 3, none⟩ = some (.int .i64 e1.ts) ∧ w'.cell? ⟨b1, 4, none⟩ = some (.int .i64 e1.seq) ∧ w'.cell? ⟨b1, 5, none⟩ = some (.int .i64 e1.kind) ∧ w'.cell? ⟨b1, 6, none⟩ = some x1 ∧ w'.cell? ⟨b1, 7, none⟩ = some (.pointer pl) ∧ w'.cell? ⟨b1, 8, none⟩ = some (.pointer pr))
    (first | exact HK.out _ hX1.drew | exact HK.out _ (hX1.drew.trans he2))
    (first | (go_at_call 42; (with_reducible refine (HIH.out _ hX1.drew).mono ?_); rintro e0 w2 ⟨v2, rfl, ht2, he2⟩; obtain ⟨p2, rfl⟩ := ht2.form; dsimp only at ht2 ⊢))
  have hX2 : Ext W w2 := hX1.drew.trans he2
  have hEw2 : Ext w w2 := hE.trans hX2
  obtain ⟨j0, j1, j2, j3, j4, j5, j6, j7, j8, j9, j10, j11, j12, j13, j14, j15, j16⟩ := HK.out w2 hX2
  go_wp2_with fail
  go_region_held3 (fun w' => w'.cell? ⟨pa, 0, none⟩ = some (.func (.func 21) #[] #[]) ∧ w'.cell? ⟨w.heap.size, 0, none⟩ = some r ∧ w'.cell? ⟨w.heap.size, 1, none⟩ = some (.int .i64 e.fam) ∧ w'.cell? ⟨w.heap.size, 2, none⟩ = some q ∧ w'.cell? ⟨w.heap.size, 3, none⟩ = some (.int .i64 e.ts) ∧ w'.cell? ⟨w.heap.size, 4, none⟩ = some (.int .i64 e.seq) ∧ w'.cell? ⟨w.heap.size, 5, none⟩ = some (.int .i64 e.kind) ∧ w'.cell? ⟨w.heap.size, 6, none⟩ = some x ∧ w'.cell? ⟨b1, 0, none⟩ = some r1 ∧ w'.cell? ⟨b1, 1, none⟩ = some (.int .i64 e1.fam) ∧ w'.cell? ⟨b1, 2, none⟩ = some q1 ∧ w'.cell? ⟨b1, 3, none⟩ = some (.int .i64 e1.ts) ∧ w'.cell? ⟨b1, 4, none⟩ = some (.int .i64 e1.seq) ∧ w'.cell? ⟨b1, 5, none⟩ = some (.int .i64 e1.kind) ∧ w'.cell? ⟨b1, 6, none⟩ = some x1 ∧ w'.cell? ⟨b1, 7, none⟩ = some (.pointer pl) ∧ w'.cell? ⟨b1, 8, none⟩ = some (.pointer pr))
    (first | exact HK.out _ hX2.drew | exact HK.out _ (hX2.drew.trans he3))
    (first | (go_at_call 66; (with_reducible refine (HEV.out _ _ hX2.drew (TreeIn.ext ht2 (Ext.refl _).drew)).mono ?_); rintro e0 w3 ⟨v3, rfl, ht3, he3⟩; obtain ⟨p3, rfl⟩ := ht3.form))
  go_wp2
  go_ret2
  exact ⟨_, rfl, ht3, hE.trans (hX2.drew.trans he3)⟩

theorem with_ok (r q x : Value) (e : Ent) (pa N : Nat) : ∀ (t : Tr) (v : Value) (w : World), RdE w r q x e → FromE N r q x → N ≤ w.heap.size → w.cell? ⟨pa, 0, none⟩ = some (.func (.func 21) #[] #[]) → TreeIn w N v t → t.size ≤ 400 →
    Calls Try.prog 42 #[.pointer (some ⟨pa, 0, none⟩), v, .agg (entCells r q x e)] w (OutW w N (withT e t))
  | .leaf, v, w, hr, hN, hNw, hpa, ht, _ => by
    obtain rfl : v = .pointer none := ht
    exact with_leaf r q x e pa N w hr hN hNw hpa
  | .node e1 l rt, v, w, hr, hN, hNw, hpa, ht, hs => by
    obtain ⟨b1, r1, q1, x1, vl, vr, rfl, hb1, hV1, hR1, hN1, hl, hrt⟩ := ht
    obtain ⟨pl, rfl⟩ := hl.form
    obtain ⟨pr, rfl⟩ := hrt.form
    have hsz : l.size + rt.size ≤ 400 := by simp only [Tr.size] at hs; omega
    have ihl : ∀ w1, Ext w w1 → Calls Try.prog 42 #[.pointer (some ⟨pa, 0, none⟩), .pointer pl, .agg (entCells r q x e)] w1 (OutW w1 N (withT e l)) := fun w1 h => with_ok r q x e pa N l (.pointer pl) w1 (hr.ext h) hN (Nat.le_trans hNw h.size) (h.cell hpa) (hl.ext h) (by omega)
    have ihr : ∀ w1, Ext w w1 → Calls Try.prog 42 #[.pointer (some ⟨pa, 0, none⟩), .pointer pr, .agg (entCells r q x e)] w1 (OutW w1 N (withT e rt)) := fun w1 h => with_ok r q x e pa N rt (.pointer pr) w1 (hr.ext h) hN (Nat.le_trans hNw h.size) (h.cell hpa) (hrt.ext h) (by omega)
    by_cases h1 : compareL e e1 < 0
    · cases h2 : (withT e l).2 with
      | true =>
        have e5 : withT e (.node e1 l rt) = (evenT e1 (withT e l).1 rt, true) := by simp only [withT, if_pos h1, h2, if_true]
        rw [e5]
        exact with_lt r q x e pa r1 q1 x1 e1 b1 pl pr l rt N w hr hN hNw hpa hV1 hR1 hN1 hb1 hl hrt hsz ihl h1 h2
      | false =>
        have e5 : withT e (.node e1 l rt) = (.node e1 l rt, false) := by simp [withT, h1, h2]
        rw [e5]
        exact with_lf r q x e pa r1 q1 x1 e1 b1 pl pr l rt N w hr hN hNw hpa hV1 hR1 hN1 hb1 hl hrt hsz ihl h1 h2
    · by_cases h3 : 0 < compareL e e1
      · cases h2 : (withT e rt).2 with
        | true =>
          have e5 : withT e (.node e1 l rt) = (evenT e1 l (withT e rt).1, true) := by simp only [withT, if_neg h1, if_pos h3, h2, if_true]
          rw [e5]
          exact with_rt r q x e pa r1 q1 x1 e1 b1 pl pr l rt N w hr hN hNw hpa hV1 hR1 hN1 hb1 hl hrt hsz ihr h3 h2
        | false =>
          have e5 : withT e (.node e1 l rt) = (.node e1 l rt, false) := by simp [withT, if_neg h1, h2, h3]
          rw [e5]
          exact with_rf r q x e pa r1 q1 x1 e1 b1 pl pr l rt N w hr hN hNw hpa hV1 hR1 hN1 hb1 hl hrt hsz ihr h3 h2
      · have e5 : withT e (.node e1 l rt) = (.node e1 l rt, false) := by simp only [withT, if_neg h1, if_neg h3]
        rw [e5]
        exact with_eq r q x e pa r1 q1 x1 e1 b1 pl pr l rt N w hr hN hNw hpa hV1 hR1 hN1 hb1 hl hrt hsz (by omega)
end Go.Proofs.Ytckhefkedkipeaa

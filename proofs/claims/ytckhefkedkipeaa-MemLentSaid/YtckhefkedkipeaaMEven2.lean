/- Package mem: even, the other ways, and all of them. -/
import Derived.Test.YtckhefkedkipeaaMEven
namespace Go.Proofs.Ytckhefkedkipeaa
open Go.RowKit

set_option maxHeartbeats 4000000 in
set_option maxRecDepth 100000 in
theorem even_b1 (r q x : Value) (e : Ent) (pl : Option Addr) (l : Tr) (r1 q1 x1 : Value) (e1 : Ent) (b1 : Nat) (pou : Option Addr) (tu : Tr) (pin : Option Addr) (ti : Tr) (N : Nat) (w : World) (hr : RdE w r q x e) (hN : FromE N r q x) (hNw : N ≤ w.heap.size) (hl : TreeIn w N (.pointer pl) l) (hV1 : Var w b1 87 (nodeCells r1 q1 x1 (.pointer pin) (.pointer pou) e1 (1 + max (Tr.ht ti) (Tr.ht tu)))) (hR1 : RdE w r1 q1 x1 e1) (hN1 : FromE N r1 q1 x1) (hb1 : N ≤ b1) (hto : TreeIn w N (.pointer pou) tu) (hti : TreeIn w N (.pointer pin) ti) (hd : l.ht + 1 < (1 + max (Tr.ht ti) (Tr.ht tu))) (hc : ti.ht ≤ tu.ht) (hbd : (1 + max (Tr.ht ti) (Tr.ht tu)) + l.ht ≤ 1000) :
    Calls Try.prog 66 #[.agg (entCells r q x e), .pointer pl, .pointer (some ⟨b1, 0, none⟩)] w (OutT w N (.node e1 (.node e l ti) tu)) := by
  have hV := Var.new w (entCells r q x e) 25
  have hE := (Ext.refl w).alloc (.cells (entCells r q x e) 25)
  unfold entCells at hV hE ⊢
  obtain ⟨W, hW⟩ : ∃ W, w.alloc (.cells #[r, .int .i64 e.fam, q, .int .i64 e.ts, .int .i64 e.seq, .int .i64 e.kind, x] 25) = W := ⟨_, rfl⟩
  rw [hW] at hV hE
  obtain ⟨L, hL⟩ : ∃ L, (l : Tr).ht = L := ⟨_, rfl⟩
  have HTl : Hid (∀ W', Ext W W' → Calls Try.prog 72 #[.pointer pl] W' fun e w' => e = .returned (.int .i64 (L : Nat)) ∧ w' = W') := Lib.hid (fun W' h => by rw [← hL]; exact tall_ok (.pointer pl) l N W' (TreeIn.ext hl (hE.trans h)))
  obtain ⟨R, hR⟩ : ∃ R, ((.node e1 ti tu) : Tr).ht = R := ⟨_, rfl⟩
  have HTr : Hid (∀ W', Ext W W' → Calls Try.prog 72 #[.pointer (some ⟨b1, 0, none⟩)] W' fun e w' => e = .returned (.int .i64 (R : Nat)) ∧ w' = W') := Lib.hid (fun W' h => by rw [← hR]; exact tall_ok (.pointer (some ⟨b1, 0, none⟩)) (.node e1 ti tu) N W' (TreeIn.ext (show TreeIn w N (.pointer (some ⟨b1, 0, none⟩)) (.node e1 ti tu) from ⟨b1, r1, q1, x1, .pointer pin, .pointer pou, rfl, hb1, hV1, hR1, hN1, hti, hto⟩) (hE.trans h)))
  obtain ⟨O, hO⟩ : ∃ O, (tu : Tr).ht = O := ⟨_, rfl⟩
  have HTo : Hid (∀ W', Ext W W' → Calls Try.prog 72 #[.pointer pou] W' fun e w' => e = .returned (.int .i64 (O : Nat)) ∧ w' = W') := Lib.hid (fun W' h => by rw [← hO]; exact tall_ok (.pointer pou) tu N W' (TreeIn.ext hto (hE.trans h)))
  obtain ⟨I, hI⟩ : ∃ I, (ti : Tr).ht = I := ⟨_, rfl⟩
  have HTi : Hid (∀ W', Ext W W' → Calls Try.prog 72 #[.pointer pin] W' fun e w' => e = .returned (.int .i64 (I : Nat)) ∧ w' = W') := Lib.hid (fun W' h => by rw [← hI]; exact tall_ok (.pointer pin) ti N W' (TreeIn.ext (show TreeIn w N (.pointer pin) ti from hti) (hE.trans h)))
  have f1 : (L : Int) + 1 < (R : Int) := by simp only [Tr.ht] at *; omega
  have f2 : ¬ ((R : Int) + 1 < (L : Int)) := by omega
  have f3 : (I : Int) ≤ (O : Int) := by simp only [Tr.ht] at *; omega
  have u1 : IntKind.i64.wrap ((L : Int) + 1) = (L : Int) + 1 := by rw [IntKind.wrap_i64]; simp only [Tr.ht] at *; omega
  have u2 : IntKind.i64.wrap ((R : Int) + 1) = (R : Int) + 1 := by rw [IntKind.wrap_i64]; simp only [Tr.ht] at *; omega
  have HH1 := Lib.hid (fun W' (h : Ext W W') => hang_ok r q x (.pointer pl) (.pointer pin) e l ti N W' (hr.ext (hE.trans h)) hN (TreeIn.ext hl (hE.trans h)) (TreeIn.ext hti (hE.trans h)) (by simp only [Tr.ht] at *; omega) (by simp only [Tr.ht] at *; omega) (Nat.le_trans hNw (hE.trans h).size))
  unfold entCells at HH1
  have HH2 : Hid (∀ W' p1, Ext W W' → TreeIn W' N (.pointer p1) (.node e l ti) → Calls Try.prog 65 #[.agg #[r1, .int .i64 e1.fam, q1, .int .i64 e1.ts, .int .i64 e1.seq, .int .i64 e1.kind, x1], .pointer p1, .pointer pou] W' (OutT W' N (.node e1 (.node e l ti) tu))) := Lib.hid (fun W' p1 h ht => hang_ok r1 q1 x1 (.pointer p1) (.pointer pou) e1 (.node e l ti) tu N W' (hR1.ext (hE.trans h)) hN1 ht (hto.ext (hE.trans h)) (by simp only [Tr.ht] at *; omega) (by simp only [Tr.ht] at *; omega) (Nat.le_trans hNw (hE.trans h).size))
  have hk : ∀ w', Ext W w' → w'.cell? ⟨w.heap.size, 0, none⟩ = some r ∧ w'.cell? ⟨w.heap.size, 1, none⟩ = some (.int .i64 e.fam) ∧ w'.cell? ⟨w.heap.size, 2, none⟩ = some q ∧ w'.cell? ⟨w.heap.size, 3, none⟩ = some (.int .i64 e.ts) ∧ w'.cell? ⟨w.heap.size, 4, none⟩ = some (.int .i64 e.seq) ∧ w'.cell? ⟨w.heap.size, 5, none⟩ = some (.int .i64 e.kind) ∧ w'.cell? ⟨w.heap.size, 6, none⟩ = some x ∧ w'.cell? ⟨b1, 0, none⟩ = some r1 ∧ w'.cell? ⟨b1, 1, none⟩ = some (.int .i64 e1.fam) ∧ w'.cell? ⟨b1, 2, none⟩ = some q1 ∧ w'.cell? ⟨b1, 3, none⟩ = some (.int .i64 e1.ts) ∧ w'.cell? ⟨b1, 4, none⟩ = some (.int .i64 e1.seq) ∧ w'.cell? ⟨b1, 5, none⟩ = some (.int .i64 e1.kind) ∧ w'.cell? ⟨b1, 6, none⟩ = some x1 ∧ w'.cell? ⟨b1, 7, none⟩ = some (.pointer pin) ∧ w'.cell? ⟨b1, 8, none⟩ = some (.pointer pou) := by
    intro w' h
    have h0 := (hV.ext h).cell
    have g1 := (hV1.ext (hE.trans h)).cell
    refine ⟨?_, ?_, ?_, ?_, ?_, ?_, ?_, ?_, ?_, ?_, ?_, ?_, ?_, ?_, ?_, ?_⟩ <;> first | (rw [h0]; rfl) | (rw [g1]; rfl)
  have HK := Lib.hid hk
  clear hk hV
  clear hL hR hO hI hd hc hbd hr hl hR1 hto hti hV1 hN1 hb1 
  go_enter Try.func66, Try.ntmps66
  go_wp2_with fail
  clear hW
  obtain ⟨c0, c1, c2, c3, c4, c5, c6, c7, c8, c9, c10, c11, c12, c13, c14, c15⟩ := (HK.out W (Ext.refl W))
  go_wp2_with (first | (go_at_call 72; (with_reducible refine (HTl.out _ (Ext.refl _)).mono ?_); rintro e0 w1 ⟨rfl, hw1⟩; (have hw2 := hw1.symm); clear hw1; subst hw2) | (go_at_call 72; (with_reducible refine (HTr.out _ (Ext.refl _)).mono ?_); rintro e0 w1 ⟨rfl, hw1⟩; (have hw2 := hw1.symm); clear hw1; subst hw2))
  go_quiet ((first
    | (go_at_call 72; refine Calls.quiet_of_same (HTo.out _ ((Ext.refl _).drewN _)))
    | (go_at_call 72; refine Calls.quiet_of_same (HTi.out _ ((Ext.refl _).drewN _)))))
  obtain ⟨Y, hY⟩ : ∃ Y, W.drewN nq = Y := ⟨_, rfl⟩
  have hWY : Ext W Y := by rw [← hY]; exact (Ext.refl W).drewN nq
  rw [hY]
  clear hY
  have HKY := Lib.hid (fun w' (h : Ext Y w') => HK.out w' (hWY.trans h))
  obtain ⟨k0, k1, k2, k3, k4, k5, k6, k7, k8, k9, k10, k11, k12, k13, k14, k15⟩ := HKY.out Y (Ext.refl Y)
  go_wp2_with fail
  go_region_held3 (fun w' => w'.cell? ⟨w.heap.size, 0, none⟩ = some r ∧ w'.cell? ⟨w.heap.size, 1, none⟩ = some (.int .i64 e.fam) ∧ w'.cell? ⟨w.heap.size, 2, none⟩ = some q ∧ w'.cell? ⟨w.heap.size, 3, none⟩ = some (.int .i64 e.ts) ∧ w'.cell? ⟨w.heap.size, 4, none⟩ = some (.int .i64 e.seq) ∧ w'.cell? ⟨w.heap.size, 5, none⟩ = some (.int .i64 e.kind) ∧ w'.cell? ⟨w.heap.size, 6, none⟩ = some x ∧ w'.cell? ⟨b1, 0, none⟩ = some r1 ∧ w'.cell? ⟨b1, 1, none⟩ = some (.int .i64 e1.fam) ∧ w'.cell? ⟨b1, 2, none⟩ = some q1 ∧ w'.cell? ⟨b1, 3, none⟩ = some (.int .i64 e1.ts) ∧ w'.cell? ⟨b1, 4, none⟩ = some (.int .i64 e1.seq) ∧ w'.cell? ⟨b1, 5, none⟩ = some (.int .i64 e1.kind) ∧ w'.cell? ⟨b1, 6, none⟩ = some x1 ∧ w'.cell? ⟨b1, 7, none⟩ = some (.pointer pin) ∧ w'.cell? ⟨b1, 8, none⟩ = some (.pointer pou))
    (first | exact HKY.out _ (Ext.refl _).drew | exact HKY.out _ ((Ext.refl _).drew.trans he1) | exact HKY.out _ (((Ext.refl _).drew.trans he1).trans he2) | exact HKY.out _ ((((Ext.refl _).drew.trans he1).trans he2).trans he3))
    (first
      | (go_at_call 65; (with_reducible refine (HH1.out _ (hWY.drew)).mono ?_); rintro e0 w1 ⟨v1, rfl, ht1, he1⟩; obtain ⟨p1, rfl⟩ := ht1.form)
      | (go_at_call 65; (with_reducible refine (HH2.out _ _ (hWY.drew.trans he1) ht1).mono ?_); rintro e0 w2 ⟨v2, rfl, ht2, he2⟩; obtain ⟨p2, rfl⟩ := ht2.form))
  go_wp2
  go_ret
  exact ⟨_, rfl, ht2, ((hE.trans hWY.drew).trans he1).trans he2⟩

set_option maxHeartbeats 4000000 in
set_option maxRecDepth 100000 in
theorem even_b2 (r q x : Value) (e : Ent) (pl : Option Addr) (l : Tr) (r1 q1 x1 : Value) (e1 : Ent) (b1 : Nat) (pou : Option Addr) (tu : Tr) (r2 q2 x2 : Value) (e2 : Ent) (b2 : Nat) (pml pmr : Option Addr) (ml mr : Tr) (N : Nat) (w : World) (hr : RdE w r q x e) (hN : FromE N r q x) (hNw : N ≤ w.heap.size) (hl : TreeIn w N (.pointer pl) l) (hV1 : Var w b1 87 (nodeCells r1 q1 x1 (.pointer (some ⟨b2, 0, none⟩)) (.pointer pou) e1 (1 + max (Tr.ht (.node e2 ml mr)) (Tr.ht tu)))) (hR1 : RdE w r1 q1 x1 e1) (hN1 : FromE N r1 q1 x1) (hb1 : N ≤ b1) (hto : TreeIn w N (.pointer pou) tu) (hV2 : Var w b2 87 (nodeCells r2 q2 x2 (.pointer pml) (.pointer pmr) e2 (1 + max (Tr.ht ml) (Tr.ht mr)))) (hR2 : RdE w r2 q2 x2 e2) (hN2 : FromE N r2 q2 x2) (hb2 : N ≤ b2) (hml : TreeIn w N (.pointer pml) ml) (hmr : TreeIn w N (.pointer pmr) mr) (hd : l.ht + 1 < (1 + max (Tr.ht (.node e2 ml mr)) (Tr.ht tu))) (hc : ¬ Tr.ht (.node e2 ml mr) ≤ tu.ht) (hbd : (1 + max (Tr.ht (.node e2 ml mr)) (Tr.ht tu)) + l.ht ≤ 1000) :
    Calls Try.prog 66 #[.agg (entCells r q x e), .pointer pl, .pointer (some ⟨b1, 0, none⟩)] w (OutT w N (.node e2 (.node e l ml) (.node e1 mr tu))) := by
  have hV := Var.new w (entCells r q x e) 25
  have hE := (Ext.refl w).alloc (.cells (entCells r q x e) 25)
  unfold entCells at hV hE ⊢
  obtain ⟨W, hW⟩ : ∃ W, w.alloc (.cells #[r, .int .i64 e.fam, q, .int .i64 e.ts, .int .i64 e.seq, .int .i64 e.kind, x] 25) = W := ⟨_, rfl⟩
  rw [hW] at hV hE
  obtain ⟨L, hL⟩ : ∃ L, (l : Tr).ht = L := ⟨_, rfl⟩
  have HTl : Hid (∀ W', Ext W W' → Calls Try.prog 72 #[.pointer pl] W' fun e w' => e = .returned (.int .i64 (L : Nat)) ∧ w' = W') := Lib.hid (fun W' h => by rw [← hL]; exact tall_ok (.pointer pl) l N W' (TreeIn.ext hl (hE.trans h)))
  obtain ⟨R, hR⟩ : ∃ R, ((.node e1 (.node e2 ml mr) tu) : Tr).ht = R := ⟨_, rfl⟩
  have HTr : Hid (∀ W', Ext W W' → Calls Try.prog 72 #[.pointer (some ⟨b1, 0, none⟩)] W' fun e w' => e = .returned (.int .i64 (R : Nat)) ∧ w' = W') := Lib.hid (fun W' h => by rw [← hR]; exact tall_ok (.pointer (some ⟨b1, 0, none⟩)) (.node e1 (.node e2 ml mr) tu) N W' (TreeIn.ext (show TreeIn w N (.pointer (some ⟨b1, 0, none⟩)) (.node e1 (.node e2 ml mr) tu) from ⟨b1, r1, q1, x1, .pointer (some ⟨b2, 0, none⟩), .pointer pou, rfl, hb1, hV1, hR1, hN1, ⟨b2, r2, q2, x2, .pointer pml, .pointer pmr, rfl, hb2, hV2, hR2, hN2, hml, hmr⟩, hto⟩) (hE.trans h)))
  obtain ⟨O, hO⟩ : ∃ O, (tu : Tr).ht = O := ⟨_, rfl⟩
  have HTo : Hid (∀ W', Ext W W' → Calls Try.prog 72 #[.pointer pou] W' fun e w' => e = .returned (.int .i64 (O : Nat)) ∧ w' = W') := Lib.hid (fun W' h => by rw [← hO]; exact tall_ok (.pointer pou) tu N W' (TreeIn.ext hto (hE.trans h)))
  obtain ⟨I, hI⟩ : ∃ I, ((.node e2 ml mr) : Tr).ht = I := ⟨_, rfl⟩
  have HTi : Hid (∀ W', Ext W W' → Calls Try.prog 72 #[.pointer (some ⟨b2, 0, none⟩)] W' fun e w' => e = .returned (.int .i64 (I : Nat)) ∧ w' = W') := Lib.hid (fun W' h => by rw [← hI]; exact tall_ok (.pointer (some ⟨b2, 0, none⟩)) (.node e2 ml mr) N W' (TreeIn.ext (show TreeIn w N (.pointer (some ⟨b2, 0, none⟩)) (.node e2 ml mr) from ⟨b2, r2, q2, x2, .pointer pml, .pointer pmr, rfl, hb2, hV2, hR2, hN2, hml, hmr⟩) (hE.trans h)))
  have f1 : (L : Int) + 1 < (R : Int) := by simp only [Tr.ht] at *; omega
  have f2 : ¬ ((R : Int) + 1 < (L : Int)) := by omega
  have f3 : ¬ ((I : Int) ≤ (O : Int)) := by simp only [Tr.ht] at *; omega
  have u1 : IntKind.i64.wrap ((L : Int) + 1) = (L : Int) + 1 := by rw [IntKind.wrap_i64]; simp only [Tr.ht] at *; omega
  have u2 : IntKind.i64.wrap ((R : Int) + 1) = (R : Int) + 1 := by rw [IntKind.wrap_i64]; simp only [Tr.ht] at *; omega
  have HH1 := Lib.hid (fun W' (h : Ext W W') => hang_ok r q x (.pointer pl) (.pointer pml) e l ml N W' (hr.ext (hE.trans h)) hN (TreeIn.ext hl (hE.trans h)) (TreeIn.ext hml (hE.trans h)) (by simp only [Tr.ht] at *; omega) (by simp only [Tr.ht] at *; omega) (Nat.le_trans hNw (hE.trans h).size))
  unfold entCells at HH1
  have HH2 := Lib.hid (fun W' (h : Ext W W') => hang_ok r1 q1 x1 (.pointer pmr) (.pointer pou) e1 mr tu N W' (hR1.ext (hE.trans h)) hN1 (TreeIn.ext hmr (hE.trans h)) (TreeIn.ext hto (hE.trans h)) (by simp only [Tr.ht] at *; omega) (by simp only [Tr.ht] at *; omega) (Nat.le_trans hNw (hE.trans h).size))
  unfold entCells at HH2
  have HH3 : Hid (∀ W' p1 p2, Ext W W' → TreeIn W' N (.pointer p1) (.node e l ml) → TreeIn W' N (.pointer p2) (.node e1 mr tu) → Calls Try.prog 65 #[.agg #[r2, .int .i64 e2.fam, q2, .int .i64 e2.ts, .int .i64 e2.seq, .int .i64 e2.kind, x2], .pointer p1, .pointer p2] W' (OutT W' N (.node e2 (.node e l ml) (.node e1 mr tu)))) := Lib.hid (fun W' p1 p2 h ht ht' => hang_ok r2 q2 x2 (.pointer p1) (.pointer p2) e2 (.node e l ml) (.node e1 mr tu) N W' (hR2.ext (hE.trans h)) hN2 ht ht' (by simp only [Tr.ht] at *; omega) (by simp only [Tr.ht] at *; omega) (Nat.le_trans hNw (hE.trans h).size))
  have hk : ∀ w', Ext W w' → w'.cell? ⟨w.heap.size, 0, none⟩ = some r ∧ w'.cell? ⟨w.heap.size, 1, none⟩ = some (.int .i64 e.fam) ∧ w'.cell? ⟨w.heap.size, 2, none⟩ = some q ∧ w'.cell? ⟨w.heap.size, 3, none⟩ = some (.int .i64 e.ts) ∧ w'.cell? ⟨w.heap.size, 4, none⟩ = some (.int .i64 e.seq) ∧ w'.cell? ⟨w.heap.size, 5, none⟩ = some (.int .i64 e.kind) ∧ w'.cell? ⟨w.heap.size, 6, none⟩ = some x ∧ w'.cell? ⟨b1, 0, none⟩ = some r1 ∧ w'.cell? ⟨b1, 1, none⟩ = some (.int .i64 e1.fam) ∧ w'.cell? ⟨b1, 2, none⟩ = some q1 ∧ w'.cell? ⟨b1, 3, none⟩ = some (.int .i64 e1.ts) ∧ w'.cell? ⟨b1, 4, none⟩ = some (.int .i64 e1.seq) ∧ w'.cell? ⟨b1, 5, none⟩ = some (.int .i64 e1.kind) ∧ w'.cell? ⟨b1, 6, none⟩ = some x1 ∧ w'.cell? ⟨b1, 7, none⟩ = some (.pointer (some ⟨b2, 0, none⟩)) ∧ w'.cell? ⟨b1, 8, none⟩ = some (.pointer pou) ∧ w'.cell? ⟨b2, 0, none⟩ = some r2 ∧ w'.cell? ⟨b2, 1, none⟩ = some (.int .i64 e2.fam) ∧ w'.cell? ⟨b2, 2, none⟩ = some q2 ∧ w'.cell? ⟨b2, 3, none⟩ = some (.int .i64 e2.ts) ∧ w'.cell? ⟨b2, 4, none⟩ = some (.int .i64 e2.seq) ∧ w'.cell? ⟨b2, 5, none⟩ = some (.int .i64 e2.kind) ∧ w'.cell? ⟨b2, 6, none⟩ = some x2 ∧ w'.cell? ⟨b2, 7, none⟩ = some (.pointer pml) ∧ w'.cell? ⟨b2, 8, none⟩ = some (.pointer pmr) := by
    intro w' h
    have h0 := (hV.ext h).cell
    have g1 := (hV1.ext (hE.trans h)).cell
    have g2 := (hV2.ext (hE.trans h)).cell
    refine ⟨?_, ?_, ?_, ?_, ?_, ?_, ?_, ?_, ?_, ?_, ?_, ?_, ?_, ?_, ?_, ?_, ?_, ?_, ?_, ?_, ?_, ?_, ?_, ?_, ?_⟩ <;> first | (rw [h0]; rfl) | (rw [g1]; rfl) | (rw [g2]; rfl)
  have HK := Lib.hid hk
  clear hk hV
  clear hL hR hO hI hd hc hbd hr hl hR1 hto hR2 hml hmr hV1 hN1 hb1 hV2 hN2 hb2 
  go_enter Try.func66, Try.ntmps66
  go_wp2_with fail
  clear hW
  obtain ⟨c0, c1, c2, c3, c4, c5, c6, c7, c8, c9, c10, c11, c12, c13, c14, c15, c16, c17, c18, c19, c20, c21, c22, c23, c24⟩ := (HK.out W (Ext.refl W))
  go_wp2_with (first | (go_at_call 72; (with_reducible refine (HTl.out _ (Ext.refl _)).mono ?_); rintro e0 w1 ⟨rfl, hw1⟩; (have hw2 := hw1.symm); clear hw1; subst hw2) | (go_at_call 72; (with_reducible refine (HTr.out _ (Ext.refl _)).mono ?_); rintro e0 w1 ⟨rfl, hw1⟩; (have hw2 := hw1.symm); clear hw1; subst hw2))
  go_quiet ((first
    | (go_at_call 72; refine Calls.quiet_of_same (HTo.out _ ((Ext.refl _).drewN _)))
    | (go_at_call 72; refine Calls.quiet_of_same (HTi.out _ ((Ext.refl _).drewN _)))))
  obtain ⟨Y, hY⟩ : ∃ Y, W.drewN nq = Y := ⟨_, rfl⟩
  have hWY : Ext W Y := by rw [← hY]; exact (Ext.refl W).drewN nq
  rw [hY]
  clear hY
  have HKY := Lib.hid (fun w' (h : Ext Y w') => HK.out w' (hWY.trans h))
  obtain ⟨k0, k1, k2, k3, k4, k5, k6, k7, k8, k9, k10, k11, k12, k13, k14, k15, k16, k17, k18, k19, k20, k21, k22, k23, k24⟩ := HKY.out Y (Ext.refl Y)
  go_wp2_with fail
  go_region_held3 (fun w' => w'.cell? ⟨w.heap.size, 0, none⟩ = some r ∧ w'.cell? ⟨w.heap.size, 1, none⟩ = some (.int .i64 e.fam) ∧ w'.cell? ⟨w.heap.size, 2, none⟩ = some q ∧ w'.cell? ⟨w.heap.size, 3, none⟩ = some (.int .i64 e.ts) ∧ w'.cell? ⟨w.heap.size, 4, none⟩ = some (.int .i64 e.seq) ∧ w'.cell? ⟨w.heap.size, 5, none⟩ = some (.int .i64 e.kind) ∧ w'.cell? ⟨w.heap.size, 6, none⟩ = some x ∧ w'.cell? ⟨b1, 0, none⟩ = some r1 ∧ w'.cell? ⟨b1, 1, none⟩ = some (.int .i64 e1.fam) ∧ w'.cell? ⟨b1, 2, none⟩ = some q1 ∧ w'.cell? ⟨b1, 3, none⟩ = some (.int .i64 e1.ts) ∧ w'.cell? ⟨b1, 4, none⟩ = some (.int .i64 e1.seq) ∧ w'.cell? ⟨b1, 5, none⟩ = some (.int .i64 e1.kind) ∧ w'.cell? ⟨b1, 6, none⟩ = some x1 ∧ w'.cell? ⟨b1, 7, none⟩ = some (.pointer (some ⟨b2, 0, none⟩)) ∧ w'.cell? ⟨b1, 8, none⟩ = some (.pointer pou) ∧ w'.cell? ⟨b2, 0, none⟩ = some r2 ∧ w'.cell? ⟨b2, 1, none⟩ = some (.int .i64 e2.fam) ∧ w'.cell? ⟨b2, 2, none⟩ = some q2 ∧ w'.cell? ⟨b2, 3, none⟩ = some (.int .i64 e2.ts) ∧ w'.cell? ⟨b2, 4, none⟩ = some (.int .i64 e2.seq) ∧ w'.cell? ⟨b2, 5, none⟩ = some (.int .i64 e2.kind) ∧ w'.cell? ⟨b2, 6, none⟩ = some x2 ∧ w'.cell? ⟨b2, 7, none⟩ = some (.pointer pml) ∧ w'.cell? ⟨b2, 8, none⟩ = some (.pointer pmr))
    (first | exact HKY.out _ (Ext.refl _).drew | exact HKY.out _ ((Ext.refl _).drew.trans he1) | exact HKY.out _ (((Ext.refl _).drew.trans he1).trans he2) | exact HKY.out _ ((((Ext.refl _).drew.trans he1).trans he2).trans he3))
    (first
      | (go_at_call 65; (with_reducible refine (HH1.out _ (hWY.drew)).mono ?_); rintro e0 w1 ⟨v1, rfl, ht1, he1⟩; obtain ⟨p1, rfl⟩ := ht1.form)
      | (go_at_call 65; (with_reducible refine (HH2.out _ (hWY.drew.trans he1)).mono ?_); rintro e0 w2 ⟨v2, rfl, ht2, he2⟩; obtain ⟨p2, rfl⟩ := ht2.form)
      | (go_at_call 65; (with_reducible refine (HH3.out _ _ _ ((hWY.drew.trans he1).trans he2) (TreeIn.ext ht1 he2) ht2).mono ?_); rintro e0 w3 ⟨v3, rfl, ht3, he3⟩; obtain ⟨p3, rfl⟩ := ht3.form))
  go_wp2
  go_ret
  exact ⟨_, rfl, ht3, (((hE.trans hWY.drew).trans he1).trans he2).trans he3⟩

theorem even_ok (r q x lv rv : Value) (e : Ent) (l rt : Tr) (N : Nat) (w : World) (hr : RdE w r q x e) (hN : FromE N r q x) (hNw : N ≤ w.heap.size) (hl : TreeIn w N lv l) (hrt : TreeIn w N rv rt) (hbd : l.ht + rt.ht ≤ 1000) :
    Calls Try.prog 66 #[.agg (entCells r q x e), lv, rv] w (OutT w N (evenT e l rt)) := by
  obtain ⟨pl, rfl⟩ := hl.form
  obtain ⟨pr, rfl⟩ := hrt.form
  by_cases h1 : rt.ht + 1 < l.ht
  · cases l with
    | leaf => simp [Tr.ht] at h1
    | node e1 ll lr =>
      obtain ⟨b1, r1, q1, x1, pll, plr, e0, hb1, hV1, hR1, hN1, hll, hlr⟩ := hl
      cases e0
      obtain ⟨pou, rfl⟩ := hll.form
      obtain ⟨pin, rfl⟩ := hlr.form
      by_cases hc : lr.ht ≤ ll.ht
      · have e5 : evenT e (.node e1 ll lr) rt = .node e1 ll (.node e lr rt) := by simp only [evenT, if_pos h1, if_pos hc]
        rw [e5]
        exact even_a1 r q x e pr rt r1 q1 x1 e1 b1 pou ll pin lr N w hr hN hNw hrt hV1 hR1 hN1 hb1 hll hlr h1 hc hbd
      · cases lr with
        | leaf => simp [Tr.ht] at hc
        | node e2 ml mr =>
          obtain ⟨b2, r2, q2, x2, vml, vmr, e0, hb2, hV2, hR2, hN2, hml, hmr⟩ := hlr
          cases e0
          obtain ⟨pml, rfl⟩ := hml.form
          obtain ⟨pmr, rfl⟩ := hmr.form
          have e5 : evenT e (.node e1 ll (.node e2 ml mr)) rt = .node e2 (.node e1 ll ml) (.node e mr rt) := by simp only [evenT, if_pos h1, if_neg hc]
          rw [e5]
          exact even_a2 r q x e pr rt r1 q1 x1 e1 b1 pou ll r2 q2 x2 e2 b2 pml pmr ml mr N w hr hN hNw hrt hV1 hR1 hN1 hb1 hll hV2 hR2 hN2 hb2 hml hmr h1 hc hbd
  · by_cases h2 : l.ht + 1 < rt.ht
    · cases rt with
      | leaf => simp [Tr.ht] at h2
      | node e1 rl rr =>
        obtain ⟨b1, r1, q1, x1, pll, plr, e0, hb1, hV1, hR1, hN1, hrl, hrr⟩ := hrt
        cases e0
        obtain ⟨pin, rfl⟩ := hrl.form
        obtain ⟨pou, rfl⟩ := hrr.form
        have hbd' : (1 + max (Tr.ht rl) (Tr.ht rr)) + l.ht ≤ 1000 := by simp only [Tr.ht] at hbd; omega
        by_cases hc : rl.ht ≤ rr.ht
        · have e5 : evenT e l (.node e1 rl rr) = .node e1 (.node e l rl) rr := by simp only [evenT, if_neg h1, if_pos h2, if_pos hc]
          rw [e5]
          exact even_b1 r q x e pl l r1 q1 x1 e1 b1 pou rr pin rl N w hr hN hNw hl hV1 hR1 hN1 hb1 hrr hrl h2 hc hbd'
        · cases rl with
          | leaf => simp [Tr.ht] at hc
          | node e2 ml mr =>
            obtain ⟨b2, r2, q2, x2, vml, vmr, e0, hb2, hV2, hR2, hN2, hml, hmr⟩ := hrl
            cases e0
            obtain ⟨pml, rfl⟩ := hml.form
            obtain ⟨pmr, rfl⟩ := hmr.form
            have e5 : evenT e l (.node e1 (.node e2 ml mr) rr) = .node e2 (.node e l ml) (.node e1 mr rr) := by simp only [evenT, if_neg h1, if_pos h2, if_neg hc]
            rw [e5]
            exact even_b2 r q x e pl l r1 q1 x1 e1 b1 pou rr r2 q2 x2 e2 b2 pml pmr ml mr N w hr hN hNw hl hV1 hR1 hN1 hb1 hrr hV2 hR2 hN2 hb2 hml hmr h2 hc hbd'
    · have e5 : evenT e l rt = .node e l rt := by simp only [evenT, if_neg h1, if_neg h2]
      rw [e5]
      exact even_c r q x e pl pr l rt N w hr hN hNw hl hrt h1 h2 hbd
end Go.Proofs.Ytckhefkedkipeaa

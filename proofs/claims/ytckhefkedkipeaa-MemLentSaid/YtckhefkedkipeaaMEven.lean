/- Package mem: even, which hangs a node over two trees so that neither side is far taller. -/
import Derived.Test.YtckhefkedkipeaaMTree
import Derived.Deep.Cut
import Derived.Deep.CutRange
namespace Go.Proofs.Ytckhefkedkipeaa
open Go.RowKit

/-- The tree that even makes. -/
def evenT (e : Ent) (l r : Tr) : Tr :=
  if r.ht + 1 < l.ht then
    match l with
    | .leaf => .node e l r
    | .node e1 ll lr => if lr.ht ≤ ll.ht then .node e1 ll (.node e lr r) else
      match lr with
      | .leaf => .node e l r
      | .node e2 ml mr => .node e2 (.node e1 ll ml) (.node e mr r)
  else if l.ht + 1 < r.ht then
    match r with
    | .leaf => .node e l r
    | .node e1 rl rr => if rl.ht ≤ rr.ht then .node e1 (.node e l rl) rr else
      match rl with
      | .leaf => .node e l r
      | .node e2 ml mr => .node e2 (.node e l ml) (.node e1 mr rr)
  else .node e l r
theorem evenT_list (e : Ent) (l r : Tr) : (evenT e l r).list = l.list ++ e :: r.list := by
  unfold evenT
  (repeat' split) <;> simp [Tr.list, *]

set_option maxHeartbeats 4000000 in
set_option maxRecDepth 100000 in
theorem even_c (r q x : Value) (e : Ent) (pl pr : Option Addr) (l rt : Tr) (N : Nat) (w : World) (hr : RdE w r q x e) (hN : FromE N r q x) (hNw : N ≤ w.heap.size) (hl : TreeIn w N (.pointer pl) l) (hrt : TreeIn w N (.pointer pr) rt) (h1 : ¬ rt.ht + 1 < l.ht) (h2 : ¬ l.ht + 1 < rt.ht) (hlr : l.ht + rt.ht ≤ 1000) :
    Calls Try.prog 66 #[.agg (entCells r q x e), .pointer pl, .pointer pr] w (OutT w N (.node e l rt)) := by
  have hV := Var.new w (entCells r q x e) 25
  have hE := (Ext.refl w).alloc (.cells (entCells r q x e) 25)
  unfold entCells at hV hE ⊢
  obtain ⟨W, hW⟩ : ∃ W, w.alloc (.cells #[r, .int .i64 e.fam, q, .int .i64 e.ts, .int .i64 e.seq, .int .i64 e.kind, x] 25) = W := ⟨_, rfl⟩
  rw [hW] at hV hE
  have HTl := Lib.hid (fun W' (h : Ext W W') => tall_ok (.pointer pl) l N W' (hl.ext (hE.trans h)))
  have HTr := Lib.hid (fun W' (h : Ext W W') => tall_ok (.pointer pr) rt N W' (hrt.ext (hE.trans h)))
  have b1 : ¬ ((rt.ht : Int) + 1 < (l.ht : Int)) := by omega
  have b2 : ¬ ((l.ht : Int) + 1 < (rt.ht : Int)) := by omega
  have u1 : IntKind.i64.wrap ((rt.ht : Int) + 1) = (rt.ht : Int) + 1 := by rw [IntKind.wrap_i64]; omega
  have u2 : IntKind.i64.wrap ((l.ht : Int) + 1) = (l.ht : Int) + 1 := by rw [IntKind.wrap_i64]; omega
  have hk : ∀ w', Ext W w' → w'.cell? ⟨w.heap.size, 0, none⟩ = some r ∧ w'.cell? ⟨w.heap.size, 1, none⟩ = some (.int .i64 e.fam) ∧ w'.cell? ⟨w.heap.size, 2, none⟩ = some q ∧ w'.cell? ⟨w.heap.size, 3, none⟩ = some (.int .i64 e.ts) ∧ w'.cell? ⟨w.heap.size, 4, none⟩ = some (.int .i64 e.seq) ∧ w'.cell? ⟨w.heap.size, 5, none⟩ = some (.int .i64 e.kind) ∧ w'.cell? ⟨w.heap.size, 6, none⟩ = some x := by
    intro w' h
    have h0 := (hV.ext h).cell
    refine ⟨?_, ?_, ?_, ?_, ?_, ?_, ?_⟩ <;> first | (rw [h0]; rfl)
  have HK := Lib.hid hk
  clear hk hV
  have HR := Lib.hid hr
  have HH := Lib.hid (fun W' (h : Ext W W') => hang_ok r q x (.pointer pl) (.pointer pr) e l rt N W' (hr.ext (hE.trans h)) hN (hl.ext (hE.trans h)) (hrt.ext (hE.trans h)) (by omega) (by omega) (Nat.le_trans hNw (hE.trans h).size))
  unfold entCells at HH
  clear hr hl hrt
  go_enter Try.func66, Try.ntmps66
  go_wp2_with fail
  clear hW
  have hcW := (HK.out W (Ext.refl W))
  obtain ⟨c0, c1, c2, c3, c4, c5, c6⟩ := hcW
  go_wp2_with (first | (go_at_call 72; (with_reducible refine (HTl.out _ (Ext.refl _)).mono ?_); rintro e0 w1 ⟨rfl, hw1⟩; (have hw2 := hw1.symm); clear hw1; subst hw2) | (go_at_call 72; (with_reducible refine (HTr.out _ (Ext.refl _)).mono ?_); rintro e0 w1 ⟨rfl, hw1⟩; (have hw2 := hw1.symm); clear hw1; subst hw2) | (go_at_call 65; (with_reducible refine (HH.out _ (Ext.refl _)).mono ?_); rintro e0 w2 ⟨v2, rfl, ht2, he2⟩; obtain ⟨p2, rfl⟩ := ht2.form))
  go_ret
  exact ⟨_, rfl, ht2, hE.trans he2⟩

set_option maxHeartbeats 4000000 in
set_option maxRecDepth 100000 in
theorem even_a1 (r q x : Value) (e : Ent) (pr : Option Addr) (rt : Tr) (r1 q1 x1 : Value) (e1 : Ent) (b1 : Nat) (pou : Option Addr) (tu : Tr) (pin : Option Addr) (ti : Tr) (N : Nat) (w : World) (hr : RdE w r q x e) (hN : FromE N r q x) (hNw : N ≤ w.heap.size) (hrt : TreeIn w N (.pointer pr) rt) (hV1 : Var w b1 87 (nodeCells r1 q1 x1 (.pointer pou) (.pointer pin) e1 (1 + max (Tr.ht tu) (Tr.ht ti)))) (hR1 : RdE w r1 q1 x1 e1) (hN1 : FromE N r1 q1 x1) (hb1 : N ≤ b1) (hto : TreeIn w N (.pointer pou) tu) (hti : TreeIn w N (.pointer pin) ti) (hd : rt.ht + 1 < (1 + max (Tr.ht tu) (Tr.ht ti))) (hc : ti.ht ≤ tu.ht) (hbd : (1 + max (Tr.ht tu) (Tr.ht ti)) + rt.ht ≤ 1000) :
    Calls Try.prog 66 #[.agg (entCells r q x e), .pointer (some ⟨b1, 0, none⟩), .pointer pr] w (OutT w N (.node e1 tu (.node e ti rt))) := by
  have hV := Var.new w (entCells r q x e) 25
  have hE := (Ext.refl w).alloc (.cells (entCells r q x e) 25)
  unfold entCells at hV hE ⊢
  obtain ⟨W, hW⟩ : ∃ W, w.alloc (.cells #[r, .int .i64 e.fam, q, .int .i64 e.ts, .int .i64 e.seq, .int .i64 e.kind, x] 25) = W := ⟨_, rfl⟩
  rw [hW] at hV hE
  obtain ⟨L, hL⟩ : ∃ L, ((.node e1 tu ti) : Tr).ht = L := ⟨_, rfl⟩
  have HTl : Hid (∀ W', Ext W W' → Calls Try.prog 72 #[.pointer (some ⟨b1, 0, none⟩)] W' fun e w' => e = .returned (.int .i64 (L : Nat)) ∧ w' = W') := Lib.hid (fun W' h => by rw [← hL]; exact tall_ok (.pointer (some ⟨b1, 0, none⟩)) (.node e1 tu ti) N W' (TreeIn.ext (show TreeIn w N (.pointer (some ⟨b1, 0, none⟩)) (.node e1 tu ti) from ⟨b1, r1, q1, x1, .pointer pou, .pointer pin, rfl, hb1, hV1, hR1, hN1, hto, hti⟩) (hE.trans h)))
  obtain ⟨R, hR⟩ : ∃ R, (rt : Tr).ht = R := ⟨_, rfl⟩
  have HTr : Hid (∀ W', Ext W W' → Calls Try.prog 72 #[.pointer pr] W' fun e w' => e = .returned (.int .i64 (R : Nat)) ∧ w' = W') := Lib.hid (fun W' h => by rw [← hR]; exact tall_ok (.pointer pr) rt N W' (TreeIn.ext hrt (hE.trans h)))
  obtain ⟨O, hO⟩ : ∃ O, (tu : Tr).ht = O := ⟨_, rfl⟩
  have HTo : Hid (∀ W', Ext W W' → Calls Try.prog 72 #[.pointer pou] W' fun e w' => e = .returned (.int .i64 (O : Nat)) ∧ w' = W') := Lib.hid (fun W' h => by rw [← hO]; exact tall_ok (.pointer pou) tu N W' (TreeIn.ext hto (hE.trans h)))
  obtain ⟨I, hI⟩ : ∃ I, (ti : Tr).ht = I := ⟨_, rfl⟩
  have HTi : Hid (∀ W', Ext W W' → Calls Try.prog 72 #[.pointer pin] W' fun e w' => e = .returned (.int .i64 (I : Nat)) ∧ w' = W') := Lib.hid (fun W' h => by rw [← hI]; exact tall_ok (.pointer pin) ti N W' (TreeIn.ext (show TreeIn w N (.pointer pin) ti from hti) (hE.trans h)))
  have f1 : (R : Int) + 1 < (L : Int) := by simp only [Tr.ht] at *; omega
  have f2 : ¬ ((L : Int) + 1 < (R : Int)) := by omega
  have f3 : (I : Int) ≤ (O : Int) := by simp only [Tr.ht] at *; omega
  have u1 : IntKind.i64.wrap ((R : Int) + 1) = (R : Int) + 1 := by rw [IntKind.wrap_i64]; simp only [Tr.ht] at *; omega
  have u2 : IntKind.i64.wrap ((L : Int) + 1) = (L : Int) + 1 := by rw [IntKind.wrap_i64]; simp only [Tr.ht] at *; omega
  have HH1 := Lib.hid (fun W' (h : Ext W W') => hang_ok r q x (.pointer pin) (.pointer pr) e ti rt N W' (hr.ext (hE.trans h)) hN (TreeIn.ext hti (hE.trans h)) (TreeIn.ext hrt (hE.trans h)) (by simp only [Tr.ht] at *; omega) (by simp only [Tr.ht] at *; omega) (Nat.le_trans hNw (hE.trans h).size))
  unfold entCells at HH1
  have HH2 : Hid (∀ W' p1, Ext W W' → TreeIn W' N (.pointer p1) (.node e ti rt) → Calls Try.prog 65 #[.agg #[r1, .int .i64 e1.fam, q1, .int .i64 e1.ts, .int .i64 e1.seq, .int .i64 e1.kind, x1], .pointer pou, .pointer p1] W' (OutT W' N (.node e1 tu (.node e ti rt)))) := Lib.hid (fun W' p1 h ht => hang_ok r1 q1 x1 (.pointer pou) (.pointer p1) e1 tu (.node e ti rt) N W' (hR1.ext (hE.trans h)) hN1 (hto.ext (hE.trans h)) ht (by simp only [Tr.ht] at *; omega) (by simp only [Tr.ht] at *; omega) (Nat.le_trans hNw (hE.trans h).size))
  have hk : ∀ w', Ext W w' → w'.cell? ⟨w.heap.size, 0, none⟩ = some r ∧ w'.cell? ⟨w.heap.size, 1, none⟩ = some (.int .i64 e.fam) ∧ w'.cell? ⟨w.heap.size, 2, none⟩ = some q ∧ w'.cell? ⟨w.heap.size, 3, none⟩ = some (.int .i64 e.ts) ∧ w'.cell? ⟨w.heap.size, 4, none⟩ = some (.int .i64 e.seq) ∧ w'.cell? ⟨w.heap.size, 5, none⟩ = some (.int .i64 e.kind) ∧ w'.cell? ⟨w.heap.size, 6, none⟩ = some x ∧ w'.cell? ⟨b1, 0, none⟩ = some r1 ∧ w'.cell? ⟨b1, 1, none⟩ = some (.int .i64 e1.fam) ∧ w'.cell? ⟨b1, 2, none⟩ = some q1 ∧ w'.cell? ⟨b1, 3, none⟩ = some (.int .i64 e1.ts) ∧ w'.cell? ⟨b1, 4, none⟩ = some (.int .i64 e1.seq) ∧ w'.cell? ⟨b1, 5, none⟩ = some (.int .i64 e1.kind) ∧ w'.cell? ⟨b1, 6, none⟩ = some x1 ∧ w'.cell? ⟨b1, 7, none⟩ = some (.pointer pou) ∧ w'.cell? ⟨b1, 8, none⟩ = some (.pointer pin) := by
    intro w' h
    have h0 := (hV.ext h).cell
    have g1 := (hV1.ext (hE.trans h)).cell
    refine ⟨?_, ?_, ?_, ?_, ?_, ?_, ?_, ?_, ?_, ?_, ?_, ?_, ?_, ?_, ?_, ?_⟩ <;> first | (rw [h0]; rfl) | (rw [g1]; rfl)
  have HK := Lib.hid hk
  clear hk hV
  clear hL hR hO hI hd hc hbd hr hrt hR1 hto hti hV1 hN1 hb1 
  go_enter Try.func66, Try.ntmps66
  go_wp2_with fail
  clear hW
  obtain ⟨c0, c1, c2, c3, c4, c5, c6, c7, c8, c9, c10, c11, c12, c13, c14, c15⟩ := (HK.out W (Ext.refl W))
  go_wp2_with (first | (go_at_call 72; (with_reducible refine (HTl.out _ (Ext.refl _)).mono ?_); rintro e0 w1 ⟨rfl, hw1⟩; (have hw2 := hw1.symm); clear hw1; subst hw2) | (go_at_call 72; (with_reducible refine (HTr.out _ (Ext.refl _)).mono ?_); rintro e0 w1 ⟨rfl, hw1⟩; (have hw2 := hw1.symm); clear hw1; subst hw2))
  go_quiet ((first
    | (go_at_call 72; refine Calls.quiet_of_same (HTo.out _ ((Ext.refl _).drewN _)))
    | (go_at_call 72; refine Calls.quiet_of_same (HTi.out _ ((Ext.refl _).drewN _)))))
  obtain ⟨Y, hY⟩ : ∃ Y, W.drewN nq = Y := ⟨_, rfl⟩
  have hWY : Ext W Y := by rw [← hY]; exact (Ext.refl W).drewN nq
  rw [hY]
  clear hY
  have HKY := Lib.hid (fun w' (h : Ext Y w') => HK.out w' (hWY.trans h))
  obtain ⟨k0, k1, k2, k3, k4, k5, k6, k7, k8, k9, k10, k11, k12, k13, k14, k15⟩ := HKY.out Y (Ext.refl Y)
  go_wp2_with fail
  go_region_held3 (fun w' => w'.cell? ⟨w.heap.size, 0, none⟩ = some r ∧ w'.cell? ⟨w.heap.size, 1, none⟩ = some (.int .i64 e.fam) ∧ w'.cell? ⟨w.heap.size, 2, none⟩ = some q ∧ w'.cell? ⟨w.heap.size, 3, none⟩ = some (.int .i64 e.ts) ∧ w'.cell? ⟨w.heap.size, 4, none⟩ = some (.int .i64 e.seq) ∧ w'.cell? ⟨w.heap.size, 5, none⟩ = some (.int .i64 e.kind) ∧ w'.cell? ⟨w.heap.size, 6, none⟩ = some x ∧ w'.cell? ⟨b1, 0, none⟩ = some r1 ∧ w'.cell? ⟨b1, 1, none⟩ = some (.int .i64 e1.fam) ∧ w'.cell? ⟨b1, 2, none⟩ = some q1 ∧ w'.cell? ⟨b1, 3, none⟩ = some (.int .i64 e1.ts) ∧ w'.cell? ⟨b1, 4, none⟩ = some (.int .i64 e1.seq) ∧ w'.cell? ⟨b1, 5, none⟩ = some (.int .i64 e1.kind) ∧ w'.cell? ⟨b1, 6, none⟩ = some x1 ∧ w'.cell? ⟨b1, 7, none⟩ = some (.pointer pou) ∧ w'.cell? ⟨b1, 8, none⟩ = some (.pointer pin))
    (first | exact HKY.out _ (Ext.refl _).drew | exact HKY.out _ ((Ext.refl _).drew.trans he1) | exact HKY.out _ (((Ext.refl _).drew.trans he1).trans he2) | exact HKY.out _ ((((Ext.refl _).drew.trans he1).trans he2).trans he3))
    (first
      | (go_at_call 65; (with_reducible refine (HH1.out _ (hWY.drew)).mono ?_); rintro e0 w1 ⟨v1, rfl, ht1, he1⟩; obtain ⟨p1, rfl⟩ := ht1.form)
      | (go_at_call 65; (with_reducible refine (HH2.out _ _ (hWY.drew.trans he1) ht1).mono ?_); rintro e0 w2 ⟨v2, rfl, ht2, he2⟩; obtain ⟨p2, rfl⟩ := ht2.form))
  go_wp2
  go_ret
  exact ⟨_, rfl, ht2, ((hE.trans hWY.drew).trans he1).trans he2⟩

set_option maxHeartbeats 4000000 in
set_option maxRecDepth 100000 in
theorem even_a2 (r q x : Value) (e : Ent) (pr : Option Addr) (rt : Tr) (r1 q1 x1 : Value) (e1 : Ent) (b1 : Nat) (pou : Option Addr) (tu : Tr) (r2 q2 x2 : Value) (e2 : Ent) (b2 : Nat) (pml pmr : Option Addr) (ml mr : Tr) (N : Nat) (w : World) (hr : RdE w r q x e) (hN : FromE N r q x) (hNw : N ≤ w.heap.size) (hrt : TreeIn w N (.pointer pr) rt) (hV1 : Var w b1 87 (nodeCells r1 q1 x1 (.pointer pou) (.pointer (some ⟨b2, 0, none⟩)) e1 (1 + max (Tr.ht tu) (Tr.ht (.node e2 ml mr))))) (hR1 : RdE w r1 q1 x1 e1) (hN1 : FromE N r1 q1 x1) (hb1 : N ≤ b1) (hto : TreeIn w N (.pointer pou) tu) (hV2 : Var w b2 87 (nodeCells r2 q2 x2 (.pointer pml) (.pointer pmr) e2 (1 + max (Tr.ht ml) (Tr.ht mr)))) (hR2 : RdE w r2 q2 x2 e2) (hN2 : FromE N r2 q2 x2) (hb2 : N ≤ b2) (hml : TreeIn w N (.pointer pml) ml) (hmr : TreeIn w N (.pointer pmr) mr) (hd : rt.ht + 1 < (1 + max (Tr.ht tu) (Tr.ht (.node e2 ml mr)))) (hc : ¬ Tr.ht (.node e2 ml mr) ≤ tu.ht) (hbd : (1 + max (Tr.ht tu) (Tr.ht (.node e2 ml mr))) + rt.ht ≤ 1000) :
    Calls Try.prog 66 #[.agg (entCells r q x e), .pointer (some ⟨b1, 0, none⟩), .pointer pr] w (OutT w N (.node e2 (.node e1 tu ml) (.node e mr rt))) := by
  have hV := Var.new w (entCells r q x e) 25
  have hE := (Ext.refl w).alloc (.cells (entCells r q x e) 25)
  unfold entCells at hV hE ⊢
  obtain ⟨W, hW⟩ : ∃ W, w.alloc (.cells #[r, .int .i64 e.fam, q, .int .i64 e.ts, .int .i64 e.seq, .int .i64 e.kind, x] 25) = W := ⟨_, rfl⟩
  rw [hW] at hV hE
  obtain ⟨L, hL⟩ : ∃ L, ((.node e1 tu (.node e2 ml mr)) : Tr).ht = L := ⟨_, rfl⟩
  have HTl : Hid (∀ W', Ext W W' → Calls Try.prog 72 #[.pointer (some ⟨b1, 0, none⟩)] W' fun e w' => e = .returned (.int .i64 (L : Nat)) ∧ w' = W') := Lib.hid (fun W' h => by rw [← hL]; exact tall_ok (.pointer (some ⟨b1, 0, none⟩)) (.node e1 tu (.node e2 ml mr)) N W' (TreeIn.ext (show TreeIn w N (.pointer (some ⟨b1, 0, none⟩)) (.node e1 tu (.node e2 ml mr)) from ⟨b1, r1, q1, x1, .pointer pou, .pointer (some ⟨b2, 0, none⟩), rfl, hb1, hV1, hR1, hN1, hto, ⟨b2, r2, q2, x2, .pointer pml, .pointer pmr, rfl, hb2, hV2, hR2, hN2, hml, hmr⟩⟩) (hE.trans h)))
  obtain ⟨R, hR⟩ : ∃ R, (rt : Tr).ht = R := ⟨_, rfl⟩
  have HTr : Hid (∀ W', Ext W W' → Calls Try.prog 72 #[.pointer pr] W' fun e w' => e = .returned (.int .i64 (R : Nat)) ∧ w' = W') := Lib.hid (fun W' h => by rw [← hR]; exact tall_ok (.pointer pr) rt N W' (TreeIn.ext hrt (hE.trans h)))
  obtain ⟨O, hO⟩ : ∃ O, (tu : Tr).ht = O := ⟨_, rfl⟩
  have HTo : Hid (∀ W', Ext W W' → Calls Try.prog 72 #[.pointer pou] W' fun e w' => e = .returned (.int .i64 (O : Nat)) ∧ w' = W') := Lib.hid (fun W' h => by rw [← hO]; exact tall_ok (.pointer pou) tu N W' (TreeIn.ext hto (hE.trans h)))
  obtain ⟨I, hI⟩ : ∃ I, ((.node e2 ml mr) : Tr).ht = I := ⟨_, rfl⟩
  have HTi : Hid (∀ W', Ext W W' → Calls Try.prog 72 #[.pointer (some ⟨b2, 0, none⟩)] W' fun e w' => e = .returned (.int .i64 (I : Nat)) ∧ w' = W') := Lib.hid (fun W' h => by rw [← hI]; exact tall_ok (.pointer (some ⟨b2, 0, none⟩)) (.node e2 ml mr) N W' (TreeIn.ext (show TreeIn w N (.pointer (some ⟨b2, 0, none⟩)) (.node e2 ml mr) from ⟨b2, r2, q2, x2, .pointer pml, .pointer pmr, rfl, hb2, hV2, hR2, hN2, hml, hmr⟩) (hE.trans h)))
  have f1 : (R : Int) + 1 < (L : Int) := by simp only [Tr.ht] at *; omega
  have f2 : ¬ ((L : Int) + 1 < (R : Int)) := by omega
  have f3 : ¬ ((I : Int) ≤ (O : Int)) := by simp only [Tr.ht] at *; omega
  have u1 : IntKind.i64.wrap ((R : Int) + 1) = (R : Int) + 1 := by rw [IntKind.wrap_i64]; simp only [Tr.ht] at *; omega
  have u2 : IntKind.i64.wrap ((L : Int) + 1) = (L : Int) + 1 := by rw [IntKind.wrap_i64]; simp only [Tr.ht] at *; omega
  have HH1 := Lib.hid (fun W' (h : Ext W W') => hang_ok r1 q1 x1 (.pointer pou) (.pointer pml) e1 tu ml N W' (hR1.ext (hE.trans h)) hN1 (TreeIn.ext hto (hE.trans h)) (TreeIn.ext hml (hE.trans h)) (by simp only [Tr.ht] at *; omega) (by simp only [Tr.ht] at *; omega) (Nat.le_trans hNw (hE.trans h).size))
  unfold entCells at HH1
  have HH2 := Lib.hid (fun W' (h : Ext W W') => hang_ok r q x (.pointer pmr) (.pointer pr) e mr rt N W' (hr.ext (hE.trans h)) hN (TreeIn.ext hmr (hE.trans h)) (TreeIn.ext hrt (hE.trans h)) (by simp only [Tr.ht] at *; omega) (by simp only [Tr.ht] at *; omega) (Nat.le_trans hNw (hE.trans h).size))
  unfold entCells at HH2
  have HH3 : Hid (∀ W' p1 p2, Ext W W' → TreeIn W' N (.pointer p1) (.node e1 tu ml) → TreeIn W' N (.pointer p2) (.node e mr rt) → Calls Try.prog 65 #[.agg #[r2, .int .i64 e2.fam, q2, .int .i64 e2.ts, .int .i64 e2.seq, .int .i64 e2.kind, x2], .pointer p1, .pointer p2] W' (OutT W' N (.node e2 (.node e1 tu ml) (.node e mr rt)))) := Lib.hid (fun W' p1 p2 h ht ht' => hang_ok r2 q2 x2 (.pointer p1) (.pointer p2) e2 (.node e1 tu ml) (.node e mr rt) N W' (hR2.ext (hE.trans h)) hN2 ht ht' (by simp only [Tr.ht] at *; omega) (by simp only [Tr.ht] at *; omega) (Nat.le_trans hNw (hE.trans h).size))
  have hk : ∀ w', Ext W w' → w'.cell? ⟨w.heap.size, 0, none⟩ = some r ∧ w'.cell? ⟨w.heap.size, 1, none⟩ = some (.int .i64 e.fam) ∧ w'.cell? ⟨w.heap.size, 2, none⟩ = some q ∧ w'.cell? ⟨w.heap.size, 3, none⟩ = some (.int .i64 e.ts) ∧ w'.cell? ⟨w.heap.size, 4, none⟩ = some (.int .i64 e.seq) ∧ w'.cell? ⟨w.heap.size, 5, none⟩ = some (.int .i64 e.kind) ∧ w'.cell? ⟨w.heap.size, 6, none⟩ = some x ∧ w'.cell? ⟨b1, 0, none⟩ = some r1 ∧ w'.cell? ⟨b1, 1, none⟩ = some (.int .i64 e1.fam) ∧ w'.cell? ⟨b1, 2, none⟩ = some q1 ∧ w'.cell? ⟨b1, 3, none⟩ = some (.int .i64 e1.ts) ∧ w'.cell? ⟨b1, 4, none⟩ = some (.int .i64 e1.seq) ∧ w'.cell? ⟨b1, 5, none⟩ = some (.int .i64 e1.kind) ∧ w'.cell? ⟨b1, 6, none⟩ = some x1 ∧ w'.cell? ⟨b1, 7, none⟩ = some (.pointer pou) ∧ w'.cell? ⟨b1, 8, none⟩ = some (.pointer (some ⟨b2, 0, none⟩)) ∧ w'.cell? ⟨b2, 0, none⟩ = some r2 ∧ w'.cell? ⟨b2, 1, none⟩ = some (.int .i64 e2.fam) ∧ w'.cell? ⟨b2, 2, none⟩ = some q2 ∧ w'.cell? ⟨b2, 3, none⟩ = some (.int .i64 e2.ts) ∧ w'.cell? ⟨b2, 4, none⟩ = some (.int .i64 e2.seq) ∧ w'.cell? ⟨b2, 5, none⟩ = some (.int .i64 e2.kind) ∧ w'.cell? ⟨b2, 6, none⟩ = some x2 ∧ w'.cell? ⟨b2, 7, none⟩ = some (.pointer pml) ∧ w'.cell? ⟨b2, 8, none⟩ = some (.pointer pmr) := by
    intro w' h
    have h0 := (hV.ext h).cell
    have g1 := (hV1.ext (hE.trans h)).cell
    have g2 := (hV2.ext (hE.trans h)).cell
    refine ⟨?_, ?_, ?_, ?_, ?_, ?_, ?_, ?_, ?_, ?_, ?_, ?_, ?_, ?_, ?_, ?_, ?_, ?_, ?_, ?_, ?_, ?_, ?_, ?_, ?_⟩ <;> first | (rw [h0]; rfl) | (rw [g1]; rfl) | (rw [g2]; rfl)
  have HK := Lib.hid hk
  clear hk hV
  clear hL hR hO hI hd hc hbd hr hrt hR1 hto hR2 hml hmr hV1 hN1 hb1 hV2 hN2 hb2 
  go_enter Try.func66, Try.ntmps66
  go_wp2_with fail
  clear hW
  obtain ⟨c0, c1, c2, c3, c4, c5, c6, c7, c8, c9, c10, c11, c12, c13, c14, c15, c16, c17, c18, c19, c20, c21, c22, c23, c24⟩ := (HK.out W (Ext.refl W))
  go_wp2_with (first | (go_at_call 72; (with_reducible refine (HTl.out _ (Ext.refl _)).mono ?_); rintro e0 w1 ⟨rfl, hw1⟩; (have hw2 := hw1.symm); clear hw1; subst hw2) | (go_at_call 72; (with_reducible refine (HTr.out _ (Ext.refl _)).mono ?_); rintro e0 w1 ⟨rfl, hw1⟩; (have hw2 := hw1.symm); clear hw1; subst hw2))
  go_quiet ((first
    | (go_at_call 72; refine Calls.quiet_of_same (HTo.out _ ((Ext.refl _).drewN _)))
    | (go_at_call 72; refine Calls.quiet_of_same (HTi.out _ ((Ext.refl _).drewN _)))))
  obtain ⟨Y, hY⟩ : ∃ Y, W.drewN nq = Y := ⟨_, rfl⟩
  have hWY : Ext W Y := by rw [← hY]; exact (Ext.refl W).drewN nq
  rw [hY]
  clear hY
  have HKY := Lib.hid (fun w' (h : Ext Y w') => HK.out w' (hWY.trans h))
  obtain ⟨k0, k1, k2, k3, k4, k5, k6, k7, k8, k9, k10, k11, k12, k13, k14, k15, k16, k17, k18, k19, k20, k21, k22, k23, k24⟩ := HKY.out Y (Ext.refl Y)
  go_wp2_with fail
  go_region_held3 (fun w' => w'.cell? ⟨w.heap.size, 0, none⟩ = some r ∧ w'.cell? ⟨w.heap.size, 1, none⟩ = some (.int .i64 e.fam) ∧ w'.cell? ⟨w.heap.size, 2, none⟩ = some q ∧ w'.cell? ⟨w.heap.size, 3, none⟩ = some (.int .i64 e.ts) ∧ w'.cell? ⟨w.heap.size, 4, none⟩ = some (.int .i64 e.seq) ∧ w'.cell? ⟨w.heap.size, 5, none⟩ = some (.int .i64 e.kind) ∧ w'.cell? ⟨w.heap.size, 6, none⟩ = some x ∧ w'.cell? ⟨b1, 0, none⟩ = some r1 ∧ w'.cell? ⟨b1, 1, none⟩ = some (.int .i64 e1.fam) ∧ w'.cell? ⟨b1, 2, none⟩ = some q1 ∧ w'.cell? ⟨b1, 3, none⟩ = some (.int .i64 e1.ts) ∧ w'.cell? ⟨b1, 4, none⟩ = some (.int .i64 e1.seq) ∧ w'.cell? ⟨b1, 5, none⟩ = some (.int .i64 e1.kind) ∧ w'.cell? ⟨b1, 6, none⟩ = some x1 ∧ w'.cell? ⟨b1, 7, none⟩ = some (.pointer pou) ∧ w'.cell? ⟨b1, 8, none⟩ = some (.pointer (some ⟨b2, 0, none⟩)) ∧ w'.cell? ⟨b2, 0, none⟩ = some r2 ∧ w'.cell? ⟨b2, 1, none⟩ = some (.int .i64 e2.fam) ∧ w'.cell? ⟨b2, 2, none⟩ = some q2 ∧ w'.cell? ⟨b2, 3, none⟩ = some (.int .i64 e2.ts) ∧ w'.cell? ⟨b2, 4, none⟩ = some (.int .i64 e2.seq) ∧ w'.cell? ⟨b2, 5, none⟩ = some (.int .i64 e2.kind) ∧ w'.cell? ⟨b2, 6, none⟩ = some x2 ∧ w'.cell? ⟨b2, 7, none⟩ = some (.pointer pml) ∧ w'.cell? ⟨b2, 8, none⟩ = some (.pointer pmr))
    (first | exact HKY.out _ (Ext.refl _).drew | exact HKY.out _ ((Ext.refl _).drew.trans he1) | exact HKY.out _ (((Ext.refl _).drew.trans he1).trans he2) | exact HKY.out _ ((((Ext.refl _).drew.trans he1).trans he2).trans he3))
    (first
      | (go_at_call 65; (with_reducible refine (HH1.out _ (hWY.drew)).mono ?_); rintro e0 w1 ⟨v1, rfl, ht1, he1⟩; obtain ⟨p1, rfl⟩ := ht1.form)
      | (go_at_call 65; (with_reducible refine (HH2.out _ (hWY.drew.trans he1)).mono ?_); rintro e0 w2 ⟨v2, rfl, ht2, he2⟩; obtain ⟨p2, rfl⟩ := ht2.form)
      | (go_at_call 65; (with_reducible refine (HH3.out _ _ _ ((hWY.drew.trans he1).trans he2) (TreeIn.ext ht1 he2) ht2).mono ?_); rintro e0 w3 ⟨v3, rfl, ht3, he3⟩; obtain ⟨p3, rfl⟩ := ht3.form))
  go_wp2
  go_ret
  exact ⟨_, rfl, ht3, (((hE.trans hWY.drew).trans he1).trans he2).trans he3⟩
end Go.Proofs.Ytckhefkedkipeaa

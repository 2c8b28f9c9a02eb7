/- Package mem: the tree: how it lies in memory, its heights, its nodes. -/
import Derived.Test.YtckhefkedkipeaaMOwn
import Derived.Deep.LoopGhost
namespace Go.Proofs.Ytckhefkedkipeaa
open Go.RowKit

/-- A tree of entries. -/
inductive Tr where
  | leaf : Tr
  | node : Ent → Tr → Tr → Tr
def Tr.list : Tr → List Ent
  | .leaf => []
  | .node e l r => l.list ++ e :: r.list
def Tr.ht : Tr → Nat
  | .leaf => 0
  | .node _ l r => 1 + max l.ht r.ht
def Tr.size : Tr → Nat
  | .leaf => 0
  | .node _ l r => l.size + 1 + r.size
theorem Tr.ht_size : ∀ t : Tr, t.ht ≤ t.size
  | .leaf => Nat.le_refl _
  | .node _ l r => by have := l.ht_size; have := r.ht_size; simp only [Tr.ht, Tr.size]; omega
theorem Tr.size_list : ∀ t : Tr, t.list.length = t.size
  | .leaf => rfl
  | .node _ l r => by have := l.size_list; have := r.size_list; simp only [Tr.list, Tr.size, List.length_append, List.length_cons]; omega
/-- A node's cells. -/
def nodeCells (r q x lv rv : Value) (e : Ent) (h : Nat) : Array Value := #[r, .int .i64 e.fam, q, .int .i64 e.ts, .int .i64 e.seq, .int .i64 e.kind, x, lv, rv, .int .i64 h]
/-- The tree lies in memory, nothing of it below block N. -/
def TreeIn (w : World) (N : Nat) : Value → Tr → Prop
  | v, .leaf => v = .pointer none
  | v, .node e l r => ∃ b rr qq xx lv rv, v = .pointer (some ⟨b, 0, none⟩) ∧ N ≤ b ∧ Var w b 87 (nodeCells rr qq xx lv rv e (1 + max l.ht r.ht)) ∧ RdE w rr qq xx e ∧ FromE N rr qq xx ∧ TreeIn w N lv l ∧ TreeIn w N rv r
theorem RdE.fr {S : Nat → Prop} {w w' : World} {r q x : Value} {e : Ent} (h : RdE w r q x e) (hf : Fr S w w') {N : Nat} (hS : ∀ b, S b → b < N) (hN : FromE N r q x) : RdE w' r q x e := by
  have ho : ∀ v, From N v → Off S v := fun v hv k hk hs => by have := hv k hk; have := hS k hs; omega
  exact ⟨h.row.fr hf (ho _ hN.1), h.qual.fr hf (ho _ hN.2.1), h.value.fr hf (ho _ hN.2.2)⟩
theorem TreeIn.fr {S : Nat → Prop} {w w' : World} {N : Nat} (hf : Fr S w w') (hS : ∀ b, S b → b < N) : ∀ {t : Tr} {v : Value}, TreeIn w N v t → TreeIn w' N v t
  | .leaf, _, h => h
  | .node _ _ _, _, ⟨b, rr, qq, xx, lv, rv, h1, h2, h3, h4, h5, h6, h7⟩ =>
    ⟨b, rr, qq, xx, lv, rv, h1, h2, h3.fr hf fun hs => by have := hS b hs; omega, h4.fr hf hS h5, h5, h6.fr hf hS, h7.fr hf hS⟩
theorem TreeIn.ext {w w' : World} {N : Nat} {t : Tr} {v : Value} (h : TreeIn w N v t) (he : Ext w w') : TreeIn w' N v t := h.fr (Fr.ext he fun _ => False) fun _ h => h.elim
theorem TreeIn.form {w : World} {N : Nat} {t : Tr} {v : Value} (h : TreeIn w N v t) : ∃ p, v = .pointer p := by
  cases t with
  | leaf => exact ⟨none, h⟩
  | node e l r => obtain ⟨b, _, _, _, _, _, h1, _⟩ := h; exact ⟨_, h1⟩

set_option maxHeartbeats 400000 in
theorem tall_ok (v : Value) (t : Tr) (N : Nat) (w : World) (h : TreeIn w N v t) : Calls Try.prog 72 #[v] w fun e w' => e = .returned (.int .i64 t.ht) ∧ w' = w := by
  cases t with
  | leaf =>
    obtain rfl : v = .pointer none := h
    go_enter Try.func72, Try.ntmps72
    go_wp2
    go_ret
    exact ⟨rfl, rfl⟩
  | node e l r =>
    obtain ⟨b, rr, qq, xx, lv, rv, rfl, _, hV, _⟩ := h
    have hc : w.cell? ⟨b, 9, none⟩ = some (.int .i64 ((1 + max l.ht r.ht : Nat) : Int)) := by rw [hV.cell]; rfl
    clear hV
    show Calls _ _ _ _ fun e w' => e = .returned (.int .i64 ((1 + max l.ht r.ht : Nat) : Int)) ∧ w' = w
    generalize ((1 + max l.ht r.ht : Nat) : Int) = c at *
    go_enter Try.func72, Try.ntmps72
    go_wp2
    go_ret
    exact ⟨rfl, rfl⟩

/-- What a call leaves that makes a tree. -/
def OutT (w : World) (N : Nat) (t : Tr) (e : Ending) (w' : World) : Prop := ∃ v, e = .returned v ∧ TreeIn w' N v t ∧ Ext w w'

set_option maxHeartbeats 1000000 in
set_option maxRecDepth 100000 in
theorem hang_ok (r q x lv rv : Value) (e : Ent) (l rt : Tr) (N : Nat) (w : World) (hr : RdE w r q x e) (hN : FromE N r q x) (hl : TreeIn w N lv l) (hrt : TreeIn w N rv rt) (hl1 : l.ht ≤ 1000) (hr1 : rt.ht ≤ 1000) (hNw : N ≤ w.heap.size) :
    Calls Try.prog 65 #[.agg (entCells r q x e), lv, rv] w (OutT w N (.node e l rt)) := by
  obtain ⟨pl, rfl⟩ := hl.form
  obtain ⟨pr, rfl⟩ := hrt.form
  have hV := Var.new w (entCells r q x e) 25
  have hE := (Ext.refl w).alloc (.cells (entCells r q x e) 25)
  unfold entCells at hV hE ⊢
  obtain ⟨W, hW⟩ : ∃ W, w.alloc (.cells #[r, .int .i64 e.fam, q, .int .i64 e.ts, .int .i64 e.seq, .int .i64 e.kind, x] 25) = W := ⟨_, rfl⟩
  rw [hW] at hV hE
  have hT1 := fun W' (h : Ext W W') => tall_ok (.pointer pl) l N W' (hl.ext (hE.trans h))
  have hT2 := fun W' (h : Ext W W') => tall_ok (.pointer pr) rt N W' (hrt.ext (hE.trans h))
  have hk : ∀ w', Ext W w' → w'.cell? ⟨w.heap.size, 0, none⟩ = some r ∧ w'.cell? ⟨w.heap.size, 1, none⟩ = some (.int .i64 e.fam) ∧ w'.cell? ⟨w.heap.size, 2, none⟩ = some q ∧ w'.cell? ⟨w.heap.size, 3, none⟩ = some (.int .i64 e.ts) ∧ w'.cell? ⟨w.heap.size, 4, none⟩ = some (.int .i64 e.seq) ∧ w'.cell? ⟨w.heap.size, 5, none⟩ = some (.int .i64 e.kind) ∧ w'.cell? ⟨w.heap.size, 6, none⟩ = some x := by
    intro w' h
    have h1 := (hV.ext h).cell
    refine ⟨?_, ?_, ?_, ?_, ?_, ?_, ?_⟩ <;> (rw [h1]; rfl)
  have HR := Lib.hid hr
  have HL := Lib.hid hl
  have HT := Lib.hid hrt
  have HT1 := Lib.hid hT1
  have HT2 := Lib.hid hT2
  have HK := Lib.hid hk
  obtain ⟨M, hM⟩ : ∃ M : Nat, M = 1 + max l.ht rt.ht := ⟨_, rfl⟩
  clear hr hl hrt hT1 hT2 hk hV
  rcases Nat.lt_or_ge l.ht rt.ht with hlt | hlt
  focus
    have hm : (1 + max l.ht rt.ht : Nat) = 1 + rt.ht := by omega
    have hw : IntKind.i64.wrap (1 + (rt.ht : Int)) = 1 + (rt.ht : Int) := by rw [IntKind.wrap_i64]; omega
    have HM := Lib.hid hm
    clear hM hm
  rotate_left
  focus
    have hm : (1 + max l.ht rt.ht : Nat) = 1 + l.ht := by omega
    have hw : IntKind.i64.wrap (1 + (l.ht : Int)) = 1 + (l.ht : Int) := by rw [IntKind.wrap_i64]; omega
    have HM := Lib.hid hm
    clear hM hm
  all_goals
    go_enter Try.func65, Try.ntmps65
    go_wp2_with fail
    clear hW
    go_region_held3 (fun w' => w'.cell? ⟨w.heap.size, 0, none⟩ = some r ∧ w'.cell? ⟨w.heap.size, 1, none⟩ = some (.int .i64 e.fam) ∧ w'.cell? ⟨w.heap.size, 2, none⟩ = some q ∧ w'.cell? ⟨w.heap.size, 3, none⟩ = some (.int .i64 e.ts) ∧ w'.cell? ⟨w.heap.size, 4, none⟩ = some (.int .i64 e.seq) ∧ w'.cell? ⟨w.heap.size, 5, none⟩ = some (.int .i64 e.kind) ∧ w'.cell? ⟨w.heap.size, 6, none⟩ = some x)
      (first | exact HK.out _ (Ext.refl _).drew | exact HK.out _ ((Ext.refl _).drew.alloc _))
      (first
        | (go_at_call 72; (with_reducible refine (HT1.out _ (Ext.refl _).drew).mono ?_); rintro e0 w1 ⟨rfl, rfl⟩)
        | (go_at_call 72; (with_reducible refine (HT2.out _ (Ext.refl _).drew).mono ?_); rintro e0 w1 ⟨rfl, rfl⟩))
    go_wp2
    go_ret
    have hE2 : ∀ o, Ext w (W.alloc o).drew := fun o => (hE.alloc o).drew
    refine ⟨_, rfl, ⟨W.heap.size, r, q, x, .pointer pl, .pointer pr, rfl, Nat.le_trans hNw hE.size, ?_, HR.out.ext (hE2 _), hN, HL.out.ext (hE2 _), HT.out.ext (hE2 _)⟩, hE2 _⟩
    rw [HM.out]
    exact (Var.new W _ _).ext (Ext.refl _).drew
end Go.Proofs.Ytckhefkedkipeaa

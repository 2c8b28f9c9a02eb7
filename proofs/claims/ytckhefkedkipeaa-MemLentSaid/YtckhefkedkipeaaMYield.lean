/- Package mem: what each hands on to the loop: an entry's copy, then yield. -/
import Derived.Test.YtckhefkedkipeaaMRange
import Derived.Shelf.Abstract
import Derived.Shelf.RegionOpen
namespace Go.Proofs.Ytckhefkedkipeaa
open Go.RowKit
set_option linter.unusedVariables false
attribute [local go_sem] Oper.semAt_some

set_option maxHeartbeats 4000000 in
set_option maxRecDepth 100000 in
theorem y48_ok (m l bl kb B : Nat) (es : List Ent) (J : Nat → List Itm → World → Prop) (hY : YieldOk m l bl es J) (pre : List Itm) (r q x : Value) (e : Ent) (W0 W : World) (hj : J B pre W0) (hE : Ext W0 W) (hB : B ≤ W.heap.size)
    (hb : W.cell? ⟨kb, 0, none⟩ = some (.func (.yield l) #[] #[])) (hr : RdE W r q x e) (f1 : e.row.length ≤ 140737488351232) (f2 : e.qual.length ≤ 140737488351232) (f3 : e.value.length ≤ 140737488351232) (hpre : (pre.map (·.e) ++ [e]) <+: es) :
    Calls Try.prog 48 #[.agg (entCells r q x e), .pointer (some ⟨kb, 0, none⟩)] W fun e0 W' => e0 = .returned (.bool true) ∧ ∃ i : Itm, i.e = e ∧ J B (pre ++ [i]) W' ∧ Fr (fun k => (k = bl ∨ k = l) ∨ B ≤ k) W W' := by
  have hV := Var.new W (entCells r q x e) 25
  have hEV := (Ext.refl W).alloc (.cells (entCells r q x e) 25)
  have HO : Hid (∀ W', Ext W W' → CallsIn Fence.wide m Try.prog 28 #[.agg (entCells r q x e)] W' (OutE W' e)) := Lib.hid fun W' h => callsIn_wide.2 (own_ok r q x e W' (hr.ext h) f1 f2 f3)
  have hnx : ∀ W2 i, Ext W W2 → i.e = e → OwE W2 i.r i.q i.x i.e → FromE W.heap.size i.r i.q i.x → YieldAt Fence.wide m Try.prog l #[.agg (entCells i.r i.q i.x i.e)] W2 fun e0 W' => e0 = .returned (.bool true) ∧ J B (pre ++ [i]) W' ∧ Fr (fun k => (k = bl ∨ k = l) ∨ B ≤ k) W2 W' := by
    intro W2 i h he ho hf
    exact hY B pre i W0 W2 hj (hE.trans h) ho ⟨hf.1.mono hE.size, hf.2.1.mono hE.size, hf.2.2.mono hE.size⟩ (by rw [he]; exact hpre)
  have HN := Lib.hid hnx
  clear hnx
  unfold entCells at hV hEV HO ⊢
  obtain ⟨X, hX⟩ : ∃ X, W.alloc (.cells #[r, .int .i64 e.fam, q, .int .i64 e.ts, .int .i64 e.seq, .int .i64 e.kind, x] 25) = X := ⟨_, rfl⟩
  rw [hX] at hV hEV
  have hcX := hV.cell
  have hbX := hEV.cell hb
  clear hV hr hb
  have hmx : Try.prog.follows .mixedOrders = true := by kernel_rfl
  have hdd : ∀ k : Nat, (Fence.wide.depth.isSome = true → 1 ≤ k) := fun k h => by simp [Fence.wide] at h
  refine callsIn_wide (n := m + 1).1 ?_
  refine callsIn_of_wp Try.func48 rfl trivial ?_ rfl
  simp only [Try.ntmps48, List.size_toArray, List.length_cons, List.length_nil, Nat.reduceAdd, Nat.reduceSub, Array.replicate_succ, Array.replicate_zero, List.push_toArray, List.append_toArray, List.nil_append, List.cons_append]
  gi_wp2_with fail
  clear hX
  gi_region_with_o (first
    | ((first | refine ⟨trivial, hdd _, ?_⟩ | refine ⟨trivial, ?_⟩); gi_at_call 28; refine (HO.out _ hEV.drew).mono ?_; rintro e0 w1 ⟨r', q', x', rfl, ho, hfo, he1⟩; obtain ⟨fn, tmps, assign, body, hy, hR⟩ := HN.out w1 ⟨r', q', x', e⟩ (hEV.drew.trans he1) rfl ho (FromE.mono hfo hEV.drew.size); have hb1 := ((Ext.refl X).drew.trans he1).cell hbX; dsimp only at hy; unfold entCells at hy; simp only [entCells])
    | ((try refine ⟨hdd _, ?_⟩); refine hR.mono ?_; rintro e0 w2 ⟨rfl, hj2, hf2⟩))
  all_goals
    gi_wp2
    go_ret
    exact ⟨rfl, ⟨r', q', x', e⟩, rfl, hj2, (Fr.ext (hEV.drew.trans he1) _).trans hf2⟩
end Go.Proofs.Ytckhefkedkipeaa

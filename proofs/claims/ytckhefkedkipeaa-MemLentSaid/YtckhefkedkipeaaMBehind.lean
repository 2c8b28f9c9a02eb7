/- Package mem: behind, From and All: what is ranged over. -/
import Derived.Test.YtckhefkedkipeaaMEach
namespace Go.Proofs.Ytckhefkedkipeaa
open Go.RowKit
set_option linter.unusedVariables false

set_option maxHeartbeats 4000000 in
set_option maxRecDepth 100000 in
theorem behind_from (kt ka pa bl N : Nat) (ko : Nat) (w0 w : World) (t : Tr) (p : Ent → Bool) (h0w : Ext w0 w) (hbl : w0.heap.size ≤ bl ∧ bl < w.heap.size) (hkt : kt < w.heap.size ∧ kt ≠ bl) (hka : ka < w.heap.size ∧ ka ≠ bl) (hpa : pa < w0.heap.size)
    (ct : w.cell? ⟨kt, 0, none⟩ = some (.pointer (some ⟨pa, 0, none⟩))) (ca : w.cell? ⟨ka, 0, none⟩ = some (.func (.func 33) #[] #[.pointer (some ⟨ko, 0, none⟩)])) (v : Value) (cr : w0.cell? ⟨pa, 1, none⟩ = some v) (ht : TreeIn w0 N v t) (hok : ∀ e ∈ t.list, checkL e = 0)
    (hAh : ∀ W', Fr (fun k => k = bl) w W' → ∀ r q x e, RdE W' r q x e → Calls Try.prog 33 #[.agg (entCells r q x e), .pointer (some ⟨ko, 0, none⟩)] W' fun e0 W2 => e0 = .returned (.bool (p e)) ∧ Ext W' W2) :
    SeqOk 46 #[.pointer (some ⟨kt, 0, none⟩), .pointer (some ⟨ka, 0, none⟩)] (listT p t) bl w := by
  intro m l J W hE hl1 hl2 hY h0
  obtain ⟨pv, rfl⟩ := ht.form
  have hsz := hE.size
  have h0sz := h0w.size
  have hV := Var.new W #[.func (.yield l) #[] #[]] 64
  have hEX := (Ext.refl W).alloc (.cells #[.func (.yield l) #[] #[]] 64)
  obtain ⟨X, hX⟩ : ∃ X, W.alloc (.cells #[.func (.yield l) #[] #[]] 64) = X := ⟨_, rfl⟩
  rw [hX] at hV hEX
  have hwX : Ext w X := hE.trans hEX
  have hXs : W.heap.size < X.heap.size := hV.lt
  have hk : ∀ w', At bl l X w' → w'.cell? ⟨kt, 0, none⟩ = some (.pointer (some ⟨pa, 0, none⟩)) ∧ w'.cell? ⟨pa, 1, none⟩ = some (.pointer pv) ∧ w'.cell? ⟨ka, 0, none⟩ = some (.func (.func 33) #[] #[.pointer (some ⟨ko, 0, none⟩)]) := fun w' h =>
    ⟨h.cell (a := ⟨kt, 0, none⟩) (Nat.lt_of_lt_of_le hkt.1 hwX.size) (fun hh => hh.elim hkt.2 fun e => by simp only at e; omega) (hwX.cell ct), h.cell (a := ⟨pa, 1, none⟩) (Nat.lt_of_lt_of_le hpa (h0w.trans hwX).size) (fun hh => hh.elim (fun e => by simp only at e; omega) fun e => by simp only at e; omega) ((h0w.trans hwX).cell cr), h.cell (a := ⟨ka, 0, none⟩) (Nat.lt_of_lt_of_le hka.1 hwX.size) (fun hh => hh.elim hka.2 fun e => by simp only at e; omega) (hwX.cell ca)⟩
  have HK := Lib.hid hk
  have HE := Lib.hid (each_from m l bl W.heap.size ko (listT p t) J hY w0 X.drew ((h0w.trans hwX).drew) hbl.1 (by omega) ⟨hXs, by omega, by omega⟩ ((Ext.refl X).drew.cell (by rw [hV.cell]; rfl)) p
    (fun W' hA => hAh W' ⟨(Fr.os hA).trans hwX.drew.os, (Fr.tape hA).trans hwX.drew.tape, (Fr.output hA).trans hwX.drew.output, Nat.le_trans hwX.drew.size (At.size hA), fun k hk hn => (Fr.block hA k (Nat.lt_of_lt_of_le hk hwX.drew.size) (fun hh => hh.elim hn (by omega))).trans (hwX.drew.block hk)⟩) N t (.pointer pv) [] X.drew X.drew ht hok (h0 X.drew hEX.drew) (Ext.refl _) (Fr.ext (Ext.refl _) _) ⟨[], by simp⟩)
  clear hk hV ct ca cr ht hok hAh hY h0
  rw [show (#[.func (.yield l) #[] #[]] ++ #[.pointer (some ⟨kt, 0, none⟩), .pointer (some ⟨ka, 0, none⟩)] : Array Value) = #[.func (.yield l) #[] #[], .pointer (some ⟨kt, 0, none⟩), .pointer (some ⟨ka, 0, none⟩)] from rfl]
  go_enter Try.func46, Try.ntmps46
  go_wp2_with fail
  clear hX
  go_region_held3 (fun w' => w'.cell? ⟨kt, 0, none⟩ = some (.pointer (some ⟨pa, 0, none⟩)) ∧ w'.cell? ⟨pa, 1, none⟩ = some (.pointer pv) ∧ w'.cell? ⟨ka, 0, none⟩ = some (.func (.func 33) #[] #[.pointer (some ⟨ko, 0, none⟩)]))
    (first | exact HK.out _ (Fr.ext (Ext.refl _).drew _) | exact HK.out _ (Fr.trans (Fr.ext (Ext.refl _).drew _) h4))
    (first
      | (go_at_call 47; refine HE.out.mono ?_; rintro e0 w1 ⟨rfl, is, W0', h1, h2, h3, h4⟩))
  go_wp2
  go_end0
  exact ⟨⟨_, rfl⟩, X.drew.heap.size, is, W0', by simpa using h1, h2, h3⟩

set_option maxHeartbeats 4000000 in
set_option maxRecDepth 100000 in
theorem behind_all (kt ka pa bl N : Nat) (w0 w : World) (t : Tr) (p : Ent → Bool) (h0w : Ext w0 w) (hbl : w0.heap.size ≤ bl ∧ bl < w.heap.size) (hkt : kt < w.heap.size ∧ kt ≠ bl) (hka : ka < w.heap.size ∧ ka ≠ bl) (hpa : pa < w0.heap.size)
    (ct : w.cell? ⟨kt, 0, none⟩ = some (.pointer (some ⟨pa, 0, none⟩))) (ca : w.cell? ⟨ka, 0, none⟩ = some (.func (.func 32) #[] #[])) (v : Value) (cr : w0.cell? ⟨pa, 1, none⟩ = some v) (ht : TreeIn w0 N v t) (hok : ∀ e ∈ t.list, checkL e = 0)
    (hAh : ∀ W', Fr (fun k => k = bl) w W' → ∀ r q x e, RdE W' r q x e → Calls Try.prog 32 #[.agg (entCells r q x e)] W' fun e0 W2 => e0 = .returned (.bool (p e)) ∧ Ext W' W2) :
    SeqOk 46 #[.pointer (some ⟨kt, 0, none⟩), .pointer (some ⟨ka, 0, none⟩)] (listT p t) bl w := by
  intro m l J W hE hl1 hl2 hY h0
  obtain ⟨pv, rfl⟩ := ht.form
  have hsz := hE.size
  have h0sz := h0w.size
  have hV := Var.new W #[.func (.yield l) #[] #[]] 64
  have hEX := (Ext.refl W).alloc (.cells #[.func (.yield l) #[] #[]] 64)
  obtain ⟨X, hX⟩ : ∃ X, W.alloc (.cells #[.func (.yield l) #[] #[]] 64) = X := ⟨_, rfl⟩
  rw [hX] at hV hEX
  have hwX : Ext w X := hE.trans hEX
  have hXs : W.heap.size < X.heap.size := hV.lt
  have hk : ∀ w', At bl l X w' → w'.cell? ⟨kt, 0, none⟩ = some (.pointer (some ⟨pa, 0, none⟩)) ∧ w'.cell? ⟨pa, 1, none⟩ = some (.pointer pv) ∧ w'.cell? ⟨ka, 0, none⟩ = some (.func (.func 32) #[] #[]) := fun w' h =>
    ⟨h.cell (a := ⟨kt, 0, none⟩) (Nat.lt_of_lt_of_le hkt.1 hwX.size) (fun hh => hh.elim hkt.2 fun e => by simp only at e; omega) (hwX.cell ct), h.cell (a := ⟨pa, 1, none⟩) (Nat.lt_of_lt_of_le hpa (h0w.trans hwX).size) (fun hh => hh.elim (fun e => by simp only at e; omega) fun e => by simp only at e; omega) ((h0w.trans hwX).cell cr), h.cell (a := ⟨ka, 0, none⟩) (Nat.lt_of_lt_of_le hka.1 hwX.size) (fun hh => hh.elim hka.2 fun e => by simp only at e; omega) (hwX.cell ca)⟩
  have HK := Lib.hid hk
  have HE := Lib.hid (each_all m l bl W.heap.size (listT p t) J hY w0 X.drew ((h0w.trans hwX).drew) hbl.1 (by omega) ⟨hXs, by omega, by omega⟩ ((Ext.refl X).drew.cell (by rw [hV.cell]; rfl)) p
    (fun W' hA => hAh W' ⟨(Fr.os hA).trans hwX.drew.os, (Fr.tape hA).trans hwX.drew.tape, (Fr.output hA).trans hwX.drew.output, Nat.le_trans hwX.drew.size (At.size hA), fun k hk hn => (Fr.block hA k (Nat.lt_of_lt_of_le hk hwX.drew.size) (fun hh => hh.elim hn (by omega))).trans (hwX.drew.block hk)⟩) N t (.pointer pv) [] X.drew X.drew ht hok (h0 X.drew hEX.drew) (Ext.refl _) (Fr.ext (Ext.refl _) _) ⟨[], by simp⟩)
  clear hk hV ct ca cr ht hok hAh hY h0
  rw [show (#[.func (.yield l) #[] #[]] ++ #[.pointer (some ⟨kt, 0, none⟩), .pointer (some ⟨ka, 0, none⟩)] : Array Value) = #[.func (.yield l) #[] #[], .pointer (some ⟨kt, 0, none⟩), .pointer (some ⟨ka, 0, none⟩)] from rfl]
  go_enter Try.func46, Try.ntmps46
  go_wp2_with fail
  clear hX
  go_region_held3 (fun w' => w'.cell? ⟨kt, 0, none⟩ = some (.pointer (some ⟨pa, 0, none⟩)) ∧ w'.cell? ⟨pa, 1, none⟩ = some (.pointer pv) ∧ w'.cell? ⟨ka, 0, none⟩ = some (.func (.func 32) #[] #[]))
    (first | exact HK.out _ (Fr.ext (Ext.refl _).drew _) | exact HK.out _ (Fr.trans (Fr.ext (Ext.refl _).drew _) h4))
    (first
      | (go_at_call 47; refine HE.out.mono ?_; rintro e0 w1 ⟨rfl, is, W0', h1, h2, h3, h4⟩))
  go_wp2
  go_end0
  exact ⟨⟨_, rfl⟩, X.drew.heap.size, is, W0', by simpa using h1, h2, h3⟩
end Go.Proofs.Ytckhefkedkipeaa

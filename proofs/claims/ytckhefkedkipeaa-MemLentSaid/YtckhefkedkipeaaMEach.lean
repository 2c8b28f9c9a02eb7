/- Package mem: each, which goes through a tree. -/
import Derived.Test.YtckhefkedkipeaaMYield
namespace Go.Proofs.Ytckhefkedkipeaa
open Go.RowKit
set_option linter.unusedVariables false

/-- Whatever stood in the base world stands, but for two blocks. -/
def At (bl l : Nat) (Wb W : World) : Prop := Fr (fun k => k = bl ∨ k = l) Wb W
theorem At.ext {bl l : Nat} {Wb W W' : World} (h : At bl l Wb W) (he : Ext W W') : At bl l Wb W' := Fr.trans h (Fr.ext he _)
theorem At.size {bl l : Nat} {Wb W : World} (h : At bl l Wb W) : Wb.heap.size ≤ W.heap.size := Fr.size h
theorem At.rnd {bl l : Nat} {Wb W W' : World} (h : At bl l Wb W) (hf : Fr (fun k => (k = bl ∨ k = l) ∨ Wb.heap.size ≤ k) W W') : At bl l Wb W' :=
  ⟨hf.os.trans h.os, hf.tape.trans h.tape, hf.output.trans h.output, Nat.le_trans (Fr.size h) hf.size, fun k hk hn => (hf.block k (Nat.lt_of_lt_of_le hk (Fr.size h)) (fun hs => hs.elim hn (by omega))).trans (h.block k hk hn)⟩
theorem At.cell {bl l : Nat} {Wb W : World} (h : At bl l Wb W) {a : Addr} {v : Value} (hk : a.block < Wb.heap.size) (hn : ¬ (a.block = bl ∨ a.block = l)) (hc : Wb.cell? a = some v) : W.cell? a = some v := by
  rw [← hc]
  exact World.cell?_of_block (h.block _ hk hn)

set_option maxHeartbeats 4000000 in
set_option maxRecDepth 100000 in
theorem each_from (m l bl kb : Nat) (ko : Nat) (es : List Ent) (J : Nat → List Itm → World → Prop) (hY : YieldOk m l bl es J) (w0 Wb : World) (h0b : Ext w0 Wb) (hbl : w0.heap.size ≤ bl) (hl : w0.heap.size ≤ l) (hkb : kb < Wb.heap.size ∧ kb ≠ bl ∧ kb ≠ l) (hcb : Wb.cell? ⟨kb, 0, none⟩ = some (.func (.yield l) #[] #[]))
    (p : Ent → Bool) (hAh : ∀ W, At bl l Wb W → ∀ r q x e, RdE W r q x e → Calls Try.prog 33 #[.agg (entCells r q x e), .pointer (some ⟨ko, 0, none⟩)] W fun e0 W' => e0 = .returned (.bool (p e)) ∧ Ext W W') (N : Nat) :
    ∀ (t : Tr) (v : Value) (pre : List Itm) (W0 W : World), TreeIn w0 N v t → (∀ e ∈ t.list, checkL e = 0) → J Wb.heap.size pre W0 → Ext W0 W → At bl l Wb W → (pre.map (·.e) ++ listT p t) <+: es →
      Calls Try.prog 47 #[v, .func (.func 33) #[] #[.pointer (some ⟨ko, 0, none⟩)], .func (.func 48) #[] #[.pointer (some ⟨kb, 0, none⟩)]] W fun e0 W' => e0 = .returned (.bool true) ∧ ∃ is W0', J Wb.heap.size (pre ++ is) W0' ∧ Ext W0' W' ∧ is.map (·.e) = listT p t ∧ At bl l Wb W'
  | .leaf, v, pre, W0, W, ht, hok, hj, hE, hA, hpre => by
    obtain rfl : v = .pointer none := ht
    go_enter Try.func47, Try.ntmps47
    go_wp2
    go_ret
    exact ⟨rfl, [], W0, by simpa using hj, hE, rfl, hA⟩
  | .node e tl tr, v, pre, W0, W, ht, hok, hj, hE, hA, hpre => by
    obtain ⟨b1, r1, q1, x1, vl, vr, rfl, hb1, hV1, hR1, hN1, hl1, hr1⟩ := ht
    obtain ⟨pl, rfl⟩ := hl1.form
    obtain ⟨pr, rfl⟩ := hr1.form
    have hext : ∀ W', At bl l Wb W' → Ext w0 W' := fun W' h => Fr.toExt h0b h fun i hi => by omega
    have hcell : ∀ W', At bl l Wb W' → ∀ j, W'.cell? ⟨b1, j, none⟩ = (nodeCells r1 q1 x1 (.pointer pl) (.pointer pr) e (1 + max tl.ht tr.ht))[j]? := fun W' h => (hV1.ext (hext W' h)).cell
    have hkc : ∀ W', At bl l Wb W' → W'.cell? ⟨kb, 0, none⟩ = some (.func (.yield l) #[] #[]) := fun W' h => h.cell hkb.1 (fun hh => hh.elim hkb.2.1 hkb.2.2) hcb
    have hce := check_ok e (hok e (by simp [Tr.list]))
    have ihl := fun W0' W' (h0 : J Wb.heap.size pre W0') (h1 : Ext W0' W') (h2 : At bl l Wb W') (h3 : (pre.map (·.e) ++ listT p tl) <+: es) =>
      each_from m l bl kb ko es J hY w0 Wb h0b hbl hl hkb hcb p hAh N tl (.pointer pl) pre W0' W' hl1 (fun y hy => hok y (by simp [Tr.list, hy])) h0 h1 h2 h3
    have ihr := fun pre' W0' W' (h0 : J Wb.heap.size pre' W0') (h1 : Ext W0' W') (h2 : At bl l Wb W') (h3 : (pre'.map (·.e) ++ listT p tr) <+: es) =>
      each_from m l bl kb ko es J hY w0 Wb h0b hbl hl hkb hcb p hAh N tr (.pointer pr) pre' W0' W' hr1 (fun y hy => hok y (by simp [Tr.list, hy])) h0 h1 h2 h3
    have hy := fun pre' W0' W' (h0 : J Wb.heap.size pre' W0') (h1 : Ext W0' W') (h2 : At bl l Wb W') (h3 : (pre'.map (·.e) ++ [e]) <+: es) =>
      y48_ok m l bl kb Wb.heap.size es J hY pre' r1 q1 x1 e W0' W' h0 h1 h2.size (hkc W' h2) (hR1.ext (hext W' h2)) (by omega) (by omega) (by omega) h3
    have HL := Lib.hid ihl
    have HR := Lib.hid ihr
    have HY := Lib.hid hy
    have HA := Lib.hid (hAh W hA r1 q1 x1 e (hR1.ext (hext W hA)))
    have HCL := Lib.hid hcell
    have hc := hcell W hA
    clear ihl ihr hy hAh hR1 hce hok hl1 hr1 hV1 hN1 hcell
    unfold entCells at HA HY
    unfold nodeCells at hc HCL
    unfold listT at hpre
    show Calls _ _ _ _ fun e0 W' => e0 = .returned (.bool true) ∧ ∃ is W0', J Wb.heap.size (pre ++ is) W0' ∧ Ext W0' W' ∧ is.map (·.e) = (if p e = true then listT p tr else listT p tl ++ e :: listT p tr) ∧ At bl l Wb W'
    obtain ⟨pe, hpe⟩ : ∃ pe, p e = pe := ⟨_, rfl⟩
    rw [hpe] at hpre HA ⊢
    clear hpe
    cases pe with
    | true =>
      rw [if_pos rfl] at hpre
      have HP := Lib.hid hpre
      clear hpre
      go_enter Try.func47, Try.ntmps47
      go_wp2_with (first
        | (go_at_call 33; refine HA.out.mono ?_; clear HA; rintro e0 w1 ⟨rfl, he1⟩; have hA1 : At bl l Wb w1 := At.ext hA he1; clear hc; have hc1 := HCL.out w1 hA1)
        | (go_at_call 47; refine (HR.out pre W0 w1 hj (hE.trans he1) hA1 HP.out).mono ?_; rintro e0 w2 ⟨rfl, is, W0', h1, h2, h3, h4⟩))
      go_ret
      exact ⟨rfl, is, W0', h1, h2, h3, h4⟩
    | false =>
      rw [if_neg (by simp)] at hpre
      have HP1 : Hid ((pre.map (·.e) ++ listT p tl) <+: es) := Lib.hid (List.IsPrefix.trans ⟨e :: listT p tr, by simp⟩ hpre)
      have HP2 : Hid (∀ is : List Itm, is.map (·.e) = listT p tl → ((pre ++ is).map (·.e) ++ [e]) <+: es) := Lib.hid fun is h => List.IsPrefix.trans ⟨listT p tr, by simp [h]⟩ hpre
      have HP3 : Hid (∀ (is : List Itm) (i : Itm), is.map (·.e) = listT p tl → i.e = e → ((pre ++ is ++ [i]).map (·.e) ++ listT p tr) <+: es) := Lib.hid fun is i h h' => by simpa [h, h'] using hpre
      clear hpre
      go_enter Try.func47, Try.ntmps47
      go_wp2_with (first
        | (go_at_call 33; refine HA.out.mono ?_; clear HA; rintro e0 w1 ⟨rfl, he1⟩; have hA1 : At bl l Wb w1 := At.ext hA he1; clear hc; have hc1 := HCL.out w1 hA1)
        | (go_at_call 47; refine (HL.out W0 w1 hj (hE.trans he1) hA1 HP1.out).mono ?_; clear HL; rintro e0 w2 ⟨rfl, is1, W1', g1, g2, g3, hA2⟩; clear hc1; have hc2 := HCL.out w2 hA2; have G1 := Lib.hid g1; have G3 := Lib.hid g3; clear g1 g3)
        | (go_at_call 48; refine (HY.out _ W1' w2 G1.out g2 hA2 (HP2.out is1 G3.out)).mono ?_; clear HY; rintro e0 w3 ⟨rfl, i, hie, g4, g5⟩; have hA3 : At bl l Wb w3 := At.rnd hA2 g5; clear hc2; have hc3 := HCL.out w3 hA3; have HIE := Lib.hid hie; clear hie; have G4 := Lib.hid g4; clear g4)
        | (go_at_call 47; refine (HR.out _ w3 w3 G4.out (Ext.refl _) hA3 (HP3.out is1 i G3.out HIE.out)).mono ?_; rintro e0 w4 ⟨rfl, is2, W3', g6, g7, g8, g9⟩))
      go_ret
      exact ⟨rfl, is1 ++ [i] ++ is2, W3', by simpa [List.append_assoc] using g6, g7, by simp [G3.out, HIE.out, g8], g9⟩

set_option maxHeartbeats 4000000 in
set_option maxRecDepth 100000 in
theorem each_all (m l bl kb : Nat) (es : List Ent) (J : Nat → List Itm → World → Prop) (hY : YieldOk m l bl es J) (w0 Wb : World) (h0b : Ext w0 Wb) (hbl : w0.heap.size ≤ bl) (hl : w0.heap.size ≤ l) (hkb : kb < Wb.heap.size ∧ kb ≠ bl ∧ kb ≠ l) (hcb : Wb.cell? ⟨kb, 0, none⟩ = some (.func (.yield l) #[] #[]))
    (p : Ent → Bool) (hAh : ∀ W, At bl l Wb W → ∀ r q x e, RdE W r q x e → Calls Try.prog 32 #[.agg (entCells r q x e)] W fun e0 W' => e0 = .returned (.bool (p e)) ∧ Ext W W') (N : Nat) :
    ∀ (t : Tr) (v : Value) (pre : List Itm) (W0 W : World), TreeIn w0 N v t → (∀ e ∈ t.list, checkL e = 0) → J Wb.heap.size pre W0 → Ext W0 W → At bl l Wb W → (pre.map (·.e) ++ listT p t) <+: es →
      Calls Try.prog 47 #[v, .func (.func 32) #[] #[], .func (.func 48) #[] #[.pointer (some ⟨kb, 0, none⟩)]] W fun e0 W' => e0 = .returned (.bool true) ∧ ∃ is W0', J Wb.heap.size (pre ++ is) W0' ∧ Ext W0' W' ∧ is.map (·.e) = listT p t ∧ At bl l Wb W'
  | .leaf, v, pre, W0, W, ht, hok, hj, hE, hA, hpre => by
    obtain rfl : v = .pointer none := ht
    go_enter Try.func47, Try.ntmps47
    go_wp2
    go_ret
    exact ⟨rfl, [], W0, by simpa using hj, hE, rfl, hA⟩
  | .node e tl tr, v, pre, W0, W, ht, hok, hj, hE, hA, hpre => by
    obtain ⟨b1, r1, q1, x1, vl, vr, rfl, hb1, hV1, hR1, hN1, hl1, hr1⟩ := ht
    obtain ⟨pl, rfl⟩ := hl1.form
    obtain ⟨pr, rfl⟩ := hr1.form
    have hext : ∀ W', At bl l Wb W' → Ext w0 W' := fun W' h => Fr.toExt h0b h fun i hi => by omega
    have hcell : ∀ W', At bl l Wb W' → ∀ j, W'.cell? ⟨b1, j, none⟩ = (nodeCells r1 q1 x1 (.pointer pl) (.pointer pr) e (1 + max tl.ht tr.ht))[j]? := fun W' h => (hV1.ext (hext W' h)).cell
    have hkc : ∀ W', At bl l Wb W' → W'.cell? ⟨kb, 0, none⟩ = some (.func (.yield l) #[] #[]) := fun W' h => h.cell hkb.1 (fun hh => hh.elim hkb.2.1 hkb.2.2) hcb
    have hce := check_ok e (hok e (by simp [Tr.list]))
    have ihl := fun W0' W' (h0 : J Wb.heap.size pre W0') (h1 : Ext W0' W') (h2 : At bl l Wb W') (h3 : (pre.map (·.e) ++ listT p tl) <+: es) =>
      each_all m l bl kb es J hY w0 Wb h0b hbl hl hkb hcb p hAh N tl (.pointer pl) pre W0' W' hl1 (fun y hy => hok y (by simp [Tr.list, hy])) h0 h1 h2 h3
    have ihr := fun pre' W0' W' (h0 : J Wb.heap.size pre' W0') (h1 : Ext W0' W') (h2 : At bl l Wb W') (h3 : (pre'.map (·.e) ++ listT p tr) <+: es) =>
      each_all m l bl kb es J hY w0 Wb h0b hbl hl hkb hcb p hAh N tr (.pointer pr) pre' W0' W' hr1 (fun y hy => hok y (by simp [Tr.list, hy])) h0 h1 h2 h3
    have hy := fun pre' W0' W' (h0 : J Wb.heap.size pre' W0') (h1 : Ext W0' W') (h2 : At bl l Wb W') (h3 : (pre'.map (·.e) ++ [e]) <+: es) =>
      y48_ok m l bl kb Wb.heap.size es J hY pre' r1 q1 x1 e W0' W' h0 h1 h2.size (hkc W' h2) (hR1.ext (hext W' h2)) (by omega) (by omega) (by omega) h3
    have HL := Lib.hid ihl
    have HR := Lib.hid ihr
    have HY := Lib.hid hy
    have HA := Lib.hid (hAh W hA r1 q1 x1 e (hR1.ext (hext W hA)))
    have HCL := Lib.hid hcell
    have hc := hcell W hA
    clear ihl ihr hy hAh hR1 hce hok hl1 hr1 hV1 hN1 hcell
    unfold entCells at HA HY
    unfold nodeCells at hc HCL
    unfold listT at hpre
    show Calls _ _ _ _ fun e0 W' => e0 = .returned (.bool true) ∧ ∃ is W0', J Wb.heap.size (pre ++ is) W0' ∧ Ext W0' W' ∧ is.map (·.e) = (if p e = true then listT p tr else listT p tl ++ e :: listT p tr) ∧ At bl l Wb W'
    obtain ⟨pe, hpe⟩ : ∃ pe, p e = pe := ⟨_, rfl⟩
    rw [hpe] at hpre HA ⊢
    clear hpe
    cases pe with
    | true =>
      rw [if_pos rfl] at hpre
      have HP := Lib.hid hpre
      clear hpre
      go_enter Try.func47, Try.ntmps47
      go_wp2_with (first
        | (go_at_call 32; refine HA.out.mono ?_; clear HA; rintro e0 w1 ⟨rfl, he1⟩; have hA1 : At bl l Wb w1 := At.ext hA he1; clear hc; have hc1 := HCL.out w1 hA1)
        | (go_at_call 47; refine (HR.out pre W0 w1 hj (hE.trans he1) hA1 HP.out).mono ?_; rintro e0 w2 ⟨rfl, is, W0', h1, h2, h3, h4⟩))
      go_ret
      exact ⟨rfl, is, W0', h1, h2, h3, h4⟩
    | false =>
      rw [if_neg (by simp)] at hpre
      have HP1 : Hid ((pre.map (·.e) ++ listT p tl) <+: es) := Lib.hid (List.IsPrefix.trans ⟨e :: listT p tr, by simp⟩ hpre)
      have HP2 : Hid (∀ is : List Itm, is.map (·.e) = listT p tl → ((pre ++ is).map (·.e) ++ [e]) <+: es) := Lib.hid fun is h => List.IsPrefix.trans ⟨listT p tr, by simp [h]⟩ hpre
      have HP3 : Hid (∀ (is : List Itm) (i : Itm), is.map (·.e) = listT p tl → i.e = e → ((pre ++ is ++ [i]).map (·.e) ++ listT p tr) <+: es) := Lib.hid fun is i h h' => by simpa [h, h'] using hpre
      clear hpre
      go_enter Try.func47, Try.ntmps47
      go_wp2_with (first
        | (go_at_call 32; refine HA.out.mono ?_; clear HA; rintro e0 w1 ⟨rfl, he1⟩; have hA1 : At bl l Wb w1 := At.ext hA he1; clear hc; have hc1 := HCL.out w1 hA1)
        | (go_at_call 47; refine (HL.out W0 w1 hj (hE.trans he1) hA1 HP1.out).mono ?_; clear HL; rintro e0 w2 ⟨rfl, is1, W1', g1, g2, g3, hA2⟩; clear hc1; have hc2 := HCL.out w2 hA2; have G1 := Lib.hid g1; have G3 := Lib.hid g3; clear g1 g3)
        | (go_at_call 48; refine (HY.out _ W1' w2 G1.out g2 hA2 (HP2.out is1 G3.out)).mono ?_; clear HY; rintro e0 w3 ⟨rfl, i, hie, g4, g5⟩; have hA3 : At bl l Wb w3 := At.rnd hA2 g5; clear hc2; have hc3 := HCL.out w3 hA3; have HIE := Lib.hid hie; clear hie; have G4 := Lib.hid g4; clear g4)
        | (go_at_call 47; refine (HR.out _ w3 w3 G4.out (Ext.refl _) hA3 (HP3.out is1 i G3.out HIE.out)).mono ?_; rintro e0 w4 ⟨rfl, is2, W3', g6, g7, g8, g9⟩))
      go_ret
      exact ⟨rfl, is1 ++ [i] ++ is2, W3', by simpa [List.append_assoc] using g6, g7, by simp [G3.out, HIE.out, g8], g9⟩
end Go.Proofs.Ytckhefkedkipeaa

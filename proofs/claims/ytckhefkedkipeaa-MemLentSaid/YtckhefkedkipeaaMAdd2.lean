/- Package mem: Table.Add. -/
import Derived.Test.YtckhefkedkipeaaMAdd
namespace Go.Proofs.Ytckhefkedkipeaa
open Go.RowKit
set_option linter.unusedVariables false

def addCode (e : Ent) (t : Tr) : Int := if checkL e = 0 then (if (withT e t).2 = true then 0 else 80) else checkL e
def addTr (e : Ent) (t : Tr) : Tr := if checkL e = 0 then (withT e t).1 else t
/-- A memtable. -/
structure Tab (w : World) (N pa : Nat) (t : Tr) : Prop where
  ex : ∃ v n B, Var w pa 59 (tabCells v n B) ∧ TreeIn w N v t ∧ 0 ≤ n ∧ n = t.size
  lt : pa < N

set_option maxHeartbeats 2000000 in
set_option maxRecDepth 100000 in
theorem TAdd_ok (r q x : Value) (e : Ent) (t : Tr) (pa N : Nat) (w : World) (hr : RdE w r q x e) (hf : e.Fits) (hNw : N ≤ w.heap.size) (hT : Tab w N pa t) (hs : t.size ≤ 400) :
    Calls Try.prog 8 #[.pointer (some ⟨pa, 0, none⟩), .agg (entCells r q x e)] w fun e0 w' => e0 = .returned (.int .i64 (addCode e t)) ∧ Fr (fun k => k = pa) w w' ∧ Tab w' N pa (addTr e t) := by
  obtain ⟨⟨v, n, B, hV0, ht, hn0, hn1⟩, hpa⟩ := hT
  have hV := Var.new w (entCells r q x e) 25
  have hE := (Ext.refl w).alloc (.cells (entCells r q x e) 25)
  have HP := Lib.hid (fun W' (h : Ext w W') => Pack_ok r q x e W' (hr.ext h) hf)
  have HO := Lib.hid (fun W' (h : Ext w W') => own_ok r q x e W' (hr.ext h) hf.row hf.qual hf.value)
  unfold entCells at hV hE HP HO ⊢
  obtain ⟨W, hW⟩ : ∃ W, w.alloc (.cells #[r, .int .i64 e.fam, q, .int .i64 e.ts, .int .i64 e.seq, .int .i64 e.kind, x] 25) = W := ⟨_, rfl⟩
  rw [hW] at hV hE
  have hcW := hV.cell
  have HV := Lib.hid hV
  have HV0 := Lib.hid hV0
  have HT := Lib.hid ht
  have hbd : pa < w.heap.size := hV0.lt
  clear hr hV hV0 ht
  by_cases hc : checkL e = 0
  · have e1 : (packL e).2 = 0 := by unfold packL; rw [if_pos hc]
    have hpl : (packL e).1.length ≤ 10000 := by
      unfold packL
      rw [if_pos hc]
      have h1 := keyBody_len e hc
      have h2 := bytesL_len (keyBody e)
      have h3 := bytesL_len e.value
      have h4 := (check_ok e hc).2.2.2.1
      simp only [List.length_append]; omega
    unfold addCode addTr
    rw [if_pos hc, if_pos hc]
    obtain ⟨K, hK⟩ : ∃ K, packL e = K := ⟨_, rfl⟩
    rw [hK] at HP e1 hpl
    obtain ⟨K1, K2⟩ := K
    obtain rfl : K2 = 0 := e1
    clear hK hc
    have HA : Hid (∀ W' r' q' x', Ext w W' → RdE W' r' q' x' e → FromE N r' q' x' → Calls Try.prog 27 #[.pointer (some ⟨pa, 0, none⟩), .agg (entCells r' q' x' e)] W' fun e0 w' => e0 = .returned (.bool (withT e t).2) ∧ Fr (fun k => k = pa) W' w' ∧ ∃ v', Var w' pa 59 (tabCells v' (if (withT e t).2 = true then n + 1 else n) B) ∧ TreeIn w' N v' (withT e t).1) := Lib.hid fun W' r' q' x' h hr' hN' =>
      add_ok r' q' x' v e t n B pa N W' hr' hN' (Nat.le_trans hNw h.size) (HV0.out.ext h) (HT.out.ext h) hs ⟨hn0, by omega⟩ hpa
    unfold entCells at HA
    have hsz : (withT e t).2 = true → (withT e t).1.size = t.size + 1 := withT_size2 e t
    have hsz2 := withT_false e t
    obtain ⟨p, hp⟩ : ∃ p, withT e t = p := ⟨_, rfl⟩
    rw [hp] at HA hsz hsz2 ⊢
    obtain ⟨T, ok⟩ := p
    dsimp only at HA hsz hsz2 ⊢
    have HSZ := Lib.hid hsz
    have HSZ2 := Lib.hid hsz2
    clear hsz hsz2 hp
    go_enter Try.func8, Try.ntmps8
    go_wp2_with fail
    clear hW
    refine (HP.out W hE).mono ?_
    rintro e0 w1 ⟨kb, rfl, okb, fkb, e1⟩
    obtain ⟨K0, k0, rfl, -⟩ := okb.rd.shape
    have hc1 := (HV.out.ext e1).cell
    have hE1 := hE.trans e1
    have hct := (HV0.out.ext hE1).cell
    unfold tabCells at hct
    clear hcW okb
    go_wp2_with fail
    have hk : ∀ w', Fr (fun k => k = pa) w1 w' → w'.cell? ⟨w.heap.size, 0, none⟩ = some r ∧ w'.cell? ⟨w.heap.size, 1, none⟩ = some (.int .i64 e.fam) ∧ w'.cell? ⟨w.heap.size, 2, none⟩ = some q ∧ w'.cell? ⟨w.heap.size, 3, none⟩ = some (.int .i64 e.ts) ∧ w'.cell? ⟨w.heap.size, 4, none⟩ = some (.int .i64 e.seq) ∧ w'.cell? ⟨w.heap.size, 5, none⟩ = some (.int .i64 e.kind) ∧ w'.cell? ⟨w.heap.size, 6, none⟩ = some x := by
      intro w' h
      have h0 := ((HV.out.ext e1).fr h (by omega)).cell
      refine ⟨?_, ?_, ?_, ?_, ?_, ?_, ?_⟩ <;> (rw [h0]; rfl)
    have HK := Lib.hid hk
    clear hk hc1 hct
    go_region_held3 (fun w' => w'.cell? ⟨w.heap.size, 0, none⟩ = some r ∧ w'.cell? ⟨w.heap.size, 1, none⟩ = some (.int .i64 e.fam) ∧ w'.cell? ⟨w.heap.size, 2, none⟩ = some q ∧ w'.cell? ⟨w.heap.size, 3, none⟩ = some (.int .i64 e.ts) ∧ w'.cell? ⟨w.heap.size, 4, none⟩ = some (.int .i64 e.seq) ∧ w'.cell? ⟨w.heap.size, 5, none⟩ = some (.int .i64 e.kind) ∧ w'.cell? ⟨w.heap.size, 6, none⟩ = some x)
      (first | exact HK.out _ (Fr.ext (Ext.refl _).drew _) | exact HK.out _ (Fr.ext ((Ext.refl _).drew.trans e2) _) | exact HK.out _ ((Fr.ext ((Ext.refl _).drew.trans e2) _).trans f3))
      (first
        | (go_at_call 28; (with_reducible refine (HO.out _ (hE1.trans (Ext.refl _).drew)).mono ?_); rintro e0 w2 ⟨r', q', x', rfl, ho, hfo, e2⟩; obtain ⟨A1, d1, rfl, -⟩ := ho.row.rd.shape; obtain ⟨A2, d2, rfl, -⟩ := ho.qual.rd.shape; obtain ⟨A3, d3, rfl, -⟩ := ho.value.rd.shape; simp only [entCells])
        | (go_at_call 27; (with_reducible refine (HA.out _ _ _ _ (hE1.trans ((Ext.refl _).drew.trans e2)) ⟨ho.row.rd, ho.qual.rd, ho.value.rd⟩ (FromE.mono hfo (Nat.le_trans hNw (hE1.trans (Ext.refl _).drew).size))).mono ?_); rintro e0 w3 ⟨rfl, f3, v3, hV3, hT3⟩))
    have hF : Fr (fun k => k = pa) w w3 := (Fr.ext (hE1.trans ((Ext.refl _).drew.trans e2)) _).trans f3
    have hc3 := hV3.cell
    have hz3 := hV3.frozen
    have HT3 := Lib.hid hT3
    have HV3 := Lib.hid hV3
    unfold tabCells at hc3
    clear hT3 hV3 ho hfo
    cases ok with
    | false =>
      have h1 : T = t := HSZ2.out (by first | rfl | trivial)
      subst h1
      go_wp2
      go_ret
      exact ⟨rfl, hF, ⟨⟨v3, n, B, HV3.out, HT3.out, hn0, hn1⟩, hpa⟩⟩
    | true =>
      have h1 : T.size = t.size + 1 := HSZ.out (by first | rfl | trivial)
      go_wp2
      go_ret
      refine ⟨rfl, hF.trans (Fr.set _ _ _ _), ⟨⟨v3, n + 1, _, HV3.out.set 3 _, HT3.out.fr (Fr.set _ _ _ _) (fun b hb => by subst hb; exact hpa), by omega, by omega⟩, hpa⟩⟩
  · have e1 : (packL e) = ([], checkL e) := by unfold packL; rw [if_neg hc]
    unfold addCode addTr
    rw [if_neg hc, if_neg hc]
    rw [e1] at HP
    generalize checkL e = c at *
    have hcb : (c != 0) = true := by simpa using hc
    clear e1 hc
    go_enter Try.func8, Try.ntmps8
    go_wp2_with fail
    clear hW
    refine (HP.out W hE).mono ?_
    rintro e0 w1 ⟨kb, rfl, okb, fkb, e1⟩
    go_wp2
    go_ret
    exact ⟨rfl, Fr.ext (hE.trans e1) _, ⟨⟨v, n, B, HV0.out.ext (hE.trans e1), HT.out.ext (hE.trans e1), hn0, hn1⟩, hpa⟩⟩
end Go.Proofs.Ytckhefkedkipeaa

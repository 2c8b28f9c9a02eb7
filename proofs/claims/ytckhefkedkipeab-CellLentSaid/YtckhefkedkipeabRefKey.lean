/- The document's key of an entry. -/
import Derived.Test.YtckhefkedkipeabRef
namespace Go.Proofs.Ytckhefkedkipeab
open Go.RowKit

theorem flagN_false : flagN false = 1 := rfl
theorem flagN_true : flagN true = 0 := rfl
set_option maxHeartbeats 4000000 in
set_option maxRecDepth 100000 in
theorem rkey_ok (r q x : Value) (e : Ent) (w : World) (hr : RdE w r q x e) (hc : checkL e = 0) : Calls Try.prog 40 #[.agg (entCells r q x e)] w (OutB w (keyBody e)) := by
  obtain ⟨k1, k2, k3, k4, k5, k6, k7, k8, k9, k10, k11, k12, k13, _⟩ := check_ok e hc
  have hl1 := orderedL_len e.row
  have hl2 := orderedL_len e.qual
  have F1 := fun W => rFalling_ok e.ts (by omega) (by omega) W
  have F2 := fun W => rFalling_ok e.seq (by omega) (by omega) W
  have hbd : keyBody e = keyMid e ++ be 8 (9223372036854775807 - e.ts) ++ be 8 (9223372036854775807 - e.seq) ++ [e.kind] := by
    unfold keyBody
    rw [falling_len e.ts (by omega) (by omega), falling_len e.seq (by omega) (by omega)]
  rw [falling_len e.ts (by omega) (by omega)] at F1
  rw [falling_len e.seq (by omega) (by omega)] at F2
  have HF1 := Lib.hid F1
  have HF2 := Lib.hid F2
  have hb1 := be_len 8 (9223372036854775807 - e.ts)
  have hb2 := be_len 8 (9223372036854775807 - e.seq)
  generalize be 8 (9223372036854775807 - e.ts) = T1 at *
  generalize be 8 (9223372036854775807 - e.seq) = T2 at *
  have hb1' : T1.length ≤ 8 := by omega
  have hb2' : T2.length ≤ 8 := by omega
  have ewf : IntKind.u8.wrap e.fam = e.fam := by rw [IntKind.wrap_u8]; omega
  have ewk : IntKind.u8.wrap e.kind = e.kind := by rw [IntKind.wrap_u8]; omega
  have hW : Ext w (w.alloc (.cells (entCells r q x e) 24)) := (Ext.refl _).alloc _
  have hcell : ∀ o, (w.alloc (.cells (entCells r q x e) 24)).cell? ⟨w.heap.size, o, none⟩ = (entCells r q x e)[o]? := fun o => by simp [entCells]
  generalize hWg : w.alloc (.cells (entCells r q x e) 24) = W at *
  have hlt : w.heap.size < W.heap.size := by rw [← hWg]; simp
  have HR := Lib.hid hr
  unfold entCells at *
  have hall : (∃ b5 b4 M, ((e.kind : Int) == 5) = b5 ∧ ((e.kind : Int) == 4) = b4 ∧ M = (if b5 then orderedL e.row ++ [e.fam] ++ [0] else orderedL e.row ++ [e.fam] ++ [1] ++ orderedL e.qual ++ [if b4 then 0 else 1]) ∧ keyMid e = M) := by
    refine ⟨_, _, _, rfl, rfl, rfl, ?_⟩
    unfold keyMid keyHead
    by_cases h5 : e.kind = 5
    · simp [h5, flagN]
    · by_cases h4 : e.kind = 4
      · simp [h4, flagN]
      · simp [h5, h4, flagN]
  obtain ⟨b5, b4, M, hb5, hb4, hM, hMid⟩ := hall
  rw [hMid] at hbd
  have HB := Lib.hid hbd
  clear F1 F2 hbd hb1 hb2 hr hc k13 hMid
  cases b5
  all_goals cases b4
  all_goals simp only [Bool.false_eq_true, if_true, if_false] at hM
  all_goals have HM := Lib.hid hM
  all_goals clear hM
  all_goals
    go_enter Try.func40, Try.ntmps40
    go_wp2_with fail
    clear hWg
    go_wp2_with (first
      | (go_at_call 44; (with_reducible refine (rOrdered_ok _ _ _ (HR.out.row.ext hW) (by omega)).mono ?_); rintro e0 w1 ⟨v1, rfl, ho1, hf1, he1⟩; have hE1 := hW.trans he1; have hc1 := fun o => (he1.cells _ o hlt).trans (hcell o))
      | (at_builtin; refine appB rfl (.tmp 12) (.tmp 16) rfl rfl rfl (ho1.alloc _) (RdB.lit w1 [_]) (by simp; omega) ?_; intro v2 w2 ho2 hg2 hat2; have hE2 := ((he1.alloc _).grown hg2 hf1); have hf2 := From.app hf1 hat2 (he1.alloc _).size; have hc2 := fun o => (hE2.cells _ o hlt).trans (hcell o))
      | (at_builtin; refine appB rfl (.tmp 21) (.tmp 22) rfl rfl rfl (ho2.alloc _) (RdB.lit w2 [_]) (by simp; omega) ?_; intro v3 w3 ho3 hg3 hat3; have hE3 := ((hE2.alloc _).grown hg3 hf2); have hf3 := From.app hf2 hat3 (hE2.alloc _).size; have hc3 := fun o => (hE3.cells _ o hlt).trans (hcell o); have HO := Lib.hid ((congrArg (OwB w3 v3) HM.out).mpr ho3))
      | (at_builtin; refine appB rfl (.tmp 24) (.tmp 25) rfl rfl rfl (ho2.alloc _) (RdB.lit w2 [_]) (by simp; omega) ?_; intro v4 w4 ho4 hg4 hat4; have hE4 := ((hE2.alloc _).grown hg4 hf2); have hf4 := From.app hf2 hat4 (hE2.alloc _).size; have hc4 := fun o => (hE4.cells _ o hlt).trans (hcell o))
      | (go_at_call 44; (with_reducible refine (rOrdered_ok _ _ _ (HR.out.qual.ext (hW.trans hE4)) (by omega)).mono ?_); rintro e0 w5 ⟨v5, rfl, ho5, hf5, he5⟩)
      | (at_builtin; refine appB rfl (.tmp 27) (.tmp 30) rfl rfl rfl (ho4.ext he5) ho5.rd (by simp; omega) ?_; intro v6 w6 ho6 hg6 hat6; have hE6 := ((hE4.trans he5).grown hg6 hf4); have hf6 := From.app hf4 hat6 (hE4.trans he5).size; have hc6 := fun o => (hE6.cells _ o hlt).trans (hcell o))
      | (at_builtin; refine appB rfl (.tmp 35) (.tmp 37) rfl rfl rfl (ho6.alloc _) (RdB.lit w6 [_]) (by simp; omega) ?_; intro v3 w3 ho3 hg3 hat3; have hE3 := ((hE6.alloc _).grown hg3 hf6); have hf3 := From.app hf6 hat3 (hE6.alloc _).size; have hc3 := fun o => (hE3.cells _ o hlt).trans (hcell o); have HO := Lib.hid ((congrArg (OwB w3 v3) HM.out).mpr ho3)))
    have hMl : M.length ≤ 1200 := by rw [HM.out]; simp; omega
    have hcW := hW.size
    go_wp2_with (first
      | (go_at_call 45; (with_reducible refine (HF1.out _).mono ?_); rintro e0 w7 ⟨v7, rfl, ho7, hf7, he7⟩; have hc7 := fun o => (he7.cells _ o (Nat.lt_of_lt_of_le hlt hE3.size)).trans (hc3 o))
      | (go_at_call 45; (with_reducible refine (HF2.out _).mono ?_); rintro e0 w8 ⟨v8, rfl, ho8, hf8, he8⟩; have hc8 := fun o => (he8.cells _ o (Nat.lt_of_lt_of_le hlt (hE3.trans he7).size)).trans (hc7 o))
      | (at_builtin; refine appB rfl (.tmp 51) (.tmp 52) rfl rfl rfl (HO.out.ext (he7.trans he8)) (ho7.ext he8).rd (by omega) ?_; intro v9 w9 ho9 hg9 hat9; have hE9 := ((hE3.trans (he7.trans he8)).grown hg9 hf3); have hf9 := From.app hf3 hat9 (hE3.trans (he7.trans he8)).size; have hc9 := fun o => (hE9.cells _ o hlt).trans (hcell o); have ho8' := ho8.other hg9 (Sep.symm ((HO.out.ext he7).sep hf8)))
      | (at_builtin; refine appB rfl (.tmp 54) (.tmp 55) rfl rfl rfl ho9 ho8'.rd (by rw [List.length_append]; omega) ?_; intro v10 w10 ho10 hg10 hat10; have hE10 := (hE9.grown hg10 hf9); have hf10 := From.app hf9 hat10 hE9.size; have hc10 := fun o => (hE10.cells _ o hlt).trans (hcell o))
      | (at_builtin; refine appB rfl (.tmp 57) (.tmp 61) rfl rfl rfl (ho10.alloc _) (RdB.lit w10 [_]) (by simp; omega) ?_; intro v11 w11 ho11 hg11 hat11; have hE11 := ((hE10.alloc _).grown hg11 hf10); have hf11 := From.app hf10 hat11 (hE10.alloc _).size))
    go_ret
    exact ⟨_, rfl, by rw [HB.out]; exact ho11, hf11.mono hcW, hW.trans hE11⟩

set_option maxHeartbeats 400000 in
theorem rKey_ok (r q x : Value) (e : Ent) (w : World) (hr : RdE w r q x e) (hf : e.Fits) : Calls Try.prog 30 #[.agg (entCells r q x e)] w (OutBN w (keyL e)) := by
  have hck := fun (W : World) (h : Ext w W) => rCheck_ok r q x e W (hr.ext h) hf
  have hky := fun (W : World) (h : Ext w W) => rkey_ok r q x e W (hr.ext h)
  by_cases hc : checkL e = 0
  case neg =>
    have hk : keyL e = ([], checkL e) := by unfold keyL; rw [if_neg hc]
    rw [hk]
    have hb : ((checkL e : Int) != 0) = true := by simpa using hc
    generalize checkL e = c at *
    have HC := Lib.hid hck
    clear hck hc hk hky
    unfold entCells at *
    go_enter Try.func30, Try.ntmps30
    go_wp2_with (refine (HC.out _ ((Ext.refl _).alloc _)).mono ?_; rintro e w' ⟨rfl, he⟩)
    go_ret2
    exact ⟨_, rfl, OwB.nil _, From.nil _ _ _, ((Ext.refl _).alloc _).trans he⟩
  case pos =>
    have hk : keyL e = (keyBody e, 0) := by unfold keyL; rw [if_pos hc]
    rw [hk]
    have HC := Lib.hid hck
    have HK := Lib.hid fun (W : World) (h : Ext w W) => hky W h hc
    rw [hc] at HC
    clear hck hky hk hc
    generalize keyBody e = kb at *
    have hW : Ext w (w.alloc (.cells (entCells r q x e) 24)) := (Ext.refl _).alloc _
    have hcell : ∀ o, (w.alloc (.cells (entCells r q x e) 24)).cell? ⟨w.heap.size, o, none⟩ = (entCells r q x e)[o]? := fun o => by simp [entCells]
    generalize hWg : w.alloc (.cells (entCells r q x e) 24) = W at *
    have hlt : w.heap.size < W.heap.size := by rw [← hWg]; simp
    unfold entCells at *
    go_enter Try.func30, Try.ntmps30
    go_wp2_with fail
    clear hWg
    go_wp2_with (first
      | (go_at_call 39; refine (HC.out _ hW).mono ?_; rintro e0 w1 ⟨rfl, he1⟩; have hc1 := fun o => (he1.cells _ o hlt).trans (hcell o))
      | (go_at_call 40; refine (HK.out _ (hW.trans he1)).mono ?_; rintro e0 w2 ⟨v, rfl, ho, hf2, he2⟩))
    go_ret2
    exact ⟨_, rfl, ho, hf2.mono (hW.trans he1).size, (hW.trans he1).trans he2⟩
end Go.Proofs.Ytckhefkedkipeab

/- Package cell: packed entries, and what rows' keys begin with. -/
import Derived.Test.YtckhefkedkipeaaKey
namespace Go.Proofs.Ytckhefkedkipeaa
open Go.RowKit

theorem keyBody_len (e : Ent) (h : checkL e = 0) : (keyBody e).length ≤ 1048 := by
  obtain ⟨k1, k2, k3, k4, k5, k6, k7, k8, _⟩ := check_ok e h
  have h1 := orderedL_len e.row
  have h2 := orderedL_len e.qual
  have h3 : (keyMid e).length ≤ 1031 := by
    unfold keyMid keyHead
    split
    · simp; omega
    · simp; omega
  unfold keyBody
  rw [falling_len e.ts (by omega) (by omega), falling_len e.seq (by omega) (by omega)]
  simp only [List.length_append, be_len, List.length_cons, List.length_nil]
  omega

theorem uintL_len (n : Int) : (uintL n).length ≤ 10 := uintF_len 9 n
theorem bytesL_len (l : List Int) : (bytesL l).length ≤ l.length + 10 := by
  have := uintL_len l.length
  simp [bytesL]; omega
/-- An entry packed, or the fault. -/
def packL (e : Ent) : List Int × Int := if checkL e = 0 then (bytesL (keyBody e) ++ bytesL e.value, 0) else ([], checkL e)

set_option maxHeartbeats 1000000 in
set_option maxRecDepth 100000 in
theorem Pack_ok (r q x : Value) (e : Ent) (w : World) (hr : RdE w r q x e) (hf : e.Fits) : Calls Try.prog 26 #[.agg (entCells r q x e)] w (OutBN w (packL e)) := by
  have hck := fun (W : World) (h : Ext w W) => Key_ok r q x e W (hr.ext h) hf
  by_cases hc : checkL e = 0
  case neg =>
    have hk : packL e = ([], checkL e) := by unfold packL; rw [if_neg hc]
    have hk' : keyL e = ([], checkL e) := by unfold keyL; rw [if_neg hc]
    rw [hk]
    rw [hk'] at hck
    have hb : ((checkL e : Int) != 0) = true := by simpa using hc
    generalize checkL e = c at *
    have HC := Lib.hid hck
    clear hck hc hk hk'
    unfold entCells at *
    go_enter Try.func26, Try.ntmps26
    go_wp2_with (refine (HC.out _ ((Ext.refl _).alloc _)).mono ?_; rintro e w' ⟨r, rfl, ho, hf, he⟩)
    go_ret2
    exact ⟨_, rfl, OwB.nil _, From.nil _ _ _, ((Ext.refl _).alloc _).trans he⟩
  case pos =>
    have hk : packL e = (bytesL (keyBody e) ++ bytesL e.value, 0) := by unfold packL; rw [if_pos hc]
    have hk' : keyL e = (keyBody e, 0) := by unfold keyL; rw [if_pos hc]
    rw [hk]
    rw [hk'] at hck
    have hl := keyBody_len e hc
    obtain ⟨_, _, _, hx, _⟩ := check_ok e hc
    have HC := Lib.hid hck
    have hl1 := bytesL_len (keyBody e)
    have hl2 := bytesL_len e.value
    clear hck hk hk' hc
    generalize keyBody e = K at *
    have hW : Ext w (w.alloc (.cells (entCells r q x e) 25)) := (Ext.refl _).alloc _
    have hcell : ∀ o, (w.alloc (.cells (entCells r q x e) 25)).cell? ⟨w.heap.size, o, none⟩ = (entCells r q x e)[o]? := fun o => by simp [entCells]
    generalize hWg : w.alloc (.cells (entCells r q x e) 25) = W at *
    have hlt : w.heap.size < W.heap.size := by rw [← hWg]; simp
    unfold entCells at *
    go_enter Try.func26, Try.ntmps26
    go_wp2_with fail
    clear hWg
    refine (HC.out _ hW).mono ?_
    rintro e0 w1 ⟨v4, rfl, ho4, hf4, he4⟩
    have hcs := fun o => (he4.cells _ o hlt).trans (hcell o)
    have HR := Lib.hid hr
    have HE := Lib.hid (hW.trans he4)
    have keepS : ∀ w', Ext w1 w' → w'.cell? ⟨w.heap.size, 6, none⟩ = some x ∧ Ext w1 w' := fun w' h => ⟨h.cell (hcs 6), h⟩
    have HK := Lib.hid keepS
    clear hr HC hcell keepS hW hf hf4 he4 hlt
    go_wp2
    go_region_held3 (fun w' => w'.cell? ⟨w.heap.size, 6, none⟩ = some x ∧ Ext w1 w')
      (first | exact HK.out _ (Ext.refl _).drew | (go_split_ands; refine HK.out _ (Ext.trans ?_ he5); assumption) | (go_split_ands; refine HK.out _ (Ext.trans ?_ he6); assumption) | (go_split_ands; refine HK.out _ (Ext.grown ?_ hg7 hf5); assumption))
      (first
        | (go_at_call 41; go_split_ands; refine (Bytes_ok v4 K _ (ho4.rd.ext (by assumption)) (by omega)).mono ?_; rintro e0 w5 ⟨v15, rfl, ho5, hf5, he5⟩)
        | (go_at_call 41; go_split_ands; refine (Bytes_ok x e.value _ (HR.out.value.ext (HE.out.trans (by assumption))) (by omega)).mono ?_; rintro e0 w6 ⟨v18, rfl, ho6, hf6, he6⟩)
        | (go_split_ands; refine stepB rfl (.tmp 15) (.tmp 18) rfl rfl rfl (ho5.ext he6) ho6.rd (by omega) ?_; intro v19 w7 ho7 hg7 hat7))
    have he7 : Ext w1 w7 := (((Ext.refl w1).drew.trans he5).trans he6).grown hg7 hf5
    have hf7 : From w1.heap.size v19 := From.app hf5 hat7 (((Ext.refl w1).drew.trans he5).trans he6).size
    go_wp2
    go_ret2
    exact ⟨_, rfl, ho7, hf7.mono HE.out.size, HE.out.trans he7⟩

def startL (l : List Int) : List Int × Int := if outN l.length 1 256 then ([], 20) else (orderedL l, 0)
def behindL (l : List Int) : List Int × Int := if outN l.length 1 256 then ([], 20) else (orderedL l ++ [255], 0)
theorem out_len (l : List Int) (h : outN l.length 1 256 = false) : l.length ≤ 256 := by
  simp only [outN, Bool.or_eq_false_iff, decide_eq_false_iff_not] at h; omega
end Go.Proofs.Ytckhefkedkipeaa

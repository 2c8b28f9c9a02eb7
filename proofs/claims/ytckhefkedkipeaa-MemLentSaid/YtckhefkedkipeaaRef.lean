/- The document's answers of layers 1 and 2, as far as keys need them. -/
import Derived.Test.YtckhefkedkipeaaUnpack
namespace Go.Proofs.Ytckhefkedkipeaa
open Go.RowKit

set_option maxHeartbeats 400000 in
theorem rout_ok (n lo hi : Int) (w : World) : Calls Try.prog 36 #[.int .i64 n, .int .i64 lo, .int .i64 hi] w fun e w' => e = .returned (.bool (outN n lo hi)) ∧ w = w' := by
  by_cases h : n < lo
  · have hd : decide (n < lo) = true := by simpa using h
    go_enter Try.func36, Try.ntmps36
    go_wp2
    go_ret
    exact ⟨by rw [outN, hd, Bool.true_or]; rfl, rfl⟩
  · have hd : decide (n < lo) = false := by simpa using h
    go_enter Try.func36, Try.ntmps36
    go_wp2
    go_ret
    exact ⟨by rw [outN, hd, Bool.false_or]; rfl, rfl⟩
set_option maxHeartbeats 1000000 in
theorem rCheck_ok (r q x : Value) (e : Ent) (w : World) (hr : RdE w r q x e) (hf : e.Fits) : Calls Try.prog 22 #[.agg (entCells r q x e)] w (OutN w (checkL e)) := by
  obtain ⟨C, hC⟩ : ∃ C, C = checkL e := ⟨_, rfl⟩
  rw [← hC]
  unfold checkL at hC
  obtain ⟨A1, c1, rfl, h1⟩ := hr.row.shape
  obtain ⟨A2, c2, rfl, h2⟩ := hr.qual.shape
  obtain ⟨A3, c3, rfl, h3⟩ := hr.value.shape
  have HC := Lib.hid hC
  have f1 := hf.row
  have f2 := hf.qual
  have f3 := hf.value
  clear hC hr hf
  unfold entCells
  generalize e.row.length = n1 at *
  generalize e.qual.length = n2 at *
  generalize e.value.length = n3 at *
  go_enter Try.func22, Try.ntmps22
  go_wp2_with (go_at_call 36; refine (rout_ok _ _ _ _).mono ?_; rintro e w' ⟨rfl, rfl⟩)
  all_goals
    go_ret
    refine ⟨ret_int ?_, (Ext.refl _).alloc _⟩
    rw [HC.out]
    repeat' split
    all_goals first
      | rfl
      | (exfalso; omega)
      | (exfalso; simp_all; done)
      | (exfalso; simp_all; omega)
end Go.Proofs.Ytckhefkedkipeaa

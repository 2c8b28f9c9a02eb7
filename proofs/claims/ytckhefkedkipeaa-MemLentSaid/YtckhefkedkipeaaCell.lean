/- Package cell: Check and the order of entries. -/
import Derived.Test.YtckhefkedkipeaaEnt
namespace Go.Proofs.Ytckhefkedkipeaa
open Go.RowKit

def outN (n lo hi : Int) : Bool := decide (n < lo) || decide (hi < n)
set_option maxHeartbeats 400000 in
theorem coutside_ok (n lo hi : Int) (w : World) : Calls Try.prog 70 #[.int .i64 n, .int .i64 lo, .int .i64 hi] w fun e w' => e = .returned (.bool (outN n lo hi)) ∧ w = w' := by
  by_cases h : n < lo
  · have hd : decide (n < lo) = true := by simpa using h
    go_enter Try.func70, Try.ntmps70
    go_wp2
    go_ret
    exact ⟨by rw [outN, hd, Bool.true_or]; rfl, rfl⟩
  · have hd : decide (n < lo) = false := by simpa using h
    go_enter Try.func70, Try.ntmps70
    go_wp2
    go_ret
    exact ⟨by rw [outN, hd, Bool.false_or]; rfl, rfl⟩
def flagN (b : Bool) : Int := if b then 0 else 1
set_option maxHeartbeats 400000 in
theorem flag_ok (b : Bool) (w : World) : Calls Try.prog 62 #[.bool b] w fun e w' => e = .returned (.int .u8 (flagN b)) ∧ w = w' := by
  cases b with
  | true =>
    go_enter Try.func62, Try.ntmps62
    go_wp2
    go_ret
    exact ⟨rfl, rfl⟩
  | false =>
    go_enter Try.func62, Try.ntmps62
    go_wp2
    go_ret
    exact ⟨rfl, rfl⟩

/-- A number is told; whatever was there is as it was. -/
def OutN (w : World) (n : Int) (e : Ending) (w' : World) : Prop := e = .returned (.int .i64 n) ∧ Ext w w'

theorem ret_int {k : IntKind} {a b : Int} (h : a = b) : Ending.returned (.int k a) = .returned (.int k b) := by rw [h]
/-- The fault of an entry's values; 0: none. -/
def checkL (e : Ent) : Int :=
  if outN e.row.length 1 256 then 20 else if outN e.fam 0 7 then 21
  else if 256 < e.qual.length ∨ (e.kind = 5 ∧ 0 < e.qual.length) then 22
  else if outN e.ts 1 1099511627776 then 23 else if outN e.seq 0 17592186044431 then 24 else if outN e.kind 1 5 then 25
  else if 4096 < e.value.length ∨ (e.kind ≠ 1 ∧ 0 < e.value.length) then 26 else 0

set_option maxHeartbeats 1000000 in
theorem Check_ok (r q x : Value) (e : Ent) (w : World) (hr : RdE w r q x e) (hf : e.Fits) : Calls Try.prog 60 #[.agg (entCells r q x e)] w (OutN w (checkL e)) := by
  obtain ⟨C, hC⟩ : ∃ C, C = checkL e := ⟨_, rfl⟩
  rw [← hC]
  unfold checkL at hC
  obtain ⟨A1, c1, rfl, h1⟩ := hr.row.shape
  obtain ⟨A2, c2, rfl, h2⟩ := hr.qual.shape
  obtain ⟨A3, c3, rfl, h3⟩ := hr.value.shape
  have HC := Lib.hid hC
  have f1 := hf.row
  have f2 := hf.qual
  have f3 := hf.value
  clear hC hr hf
  unfold entCells
  generalize e.row.length = n1 at *
  generalize e.qual.length = n2 at *
  generalize e.value.length = n3 at *
  go_enter Try.func60, Try.ntmps60
  go_wp2_with (go_at_call 70; refine (coutside_ok _ _ _ _).mono ?_; rintro e w' ⟨rfl, rfl⟩)
  all_goals
    go_ret
    refine ⟨ret_int ?_, (Ext.refl _).alloc _⟩
    rw [HC.out]
    repeat' split
    all_goals first
      | rfl
      | (exfalso; omega)
      | (exfalso; simp_all; done)
      | (exfalso; simp_all; omega)
end Go.Proofs.Ytckhefkedkipeaa

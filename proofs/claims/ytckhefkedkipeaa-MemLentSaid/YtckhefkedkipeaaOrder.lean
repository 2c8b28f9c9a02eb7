/- Package cell: the order of entries. -/
import Derived.Test.YtckhefkedkipeaaCell
import Derived.Laws.EntriesVeiled
namespace Go.Proofs.Ytckhefkedkipeaa
open Go.RowKit

def firstN (k : Int) (a b : Ent) : Int := if ((a.kind == k) == (b.kind == k)) = true then 0 else if (a.kind == k) = true then -1 else 1

set_option maxHeartbeats 400000 in
theorem step1_ok (r q x r' q' x' : Value) (a b : Ent) (w : World) (ha : RdE w r q x a) (hb : RdE w r' q' x' b) : Calls Try.prog 49 #[.agg (entCells r q x a), .agg (entCells r' q' x' b)] w (OutN w (cmpS a.row b.row)) := by
  have h1 := (ha.row.alloc (.cells (entCells r q x a) 25)).alloc (.cells (entCells r' q' x' b) 25)
  have h2 := (hb.row.alloc (.cells (entCells r q x a) 25)).alloc (.cells (entCells r' q' x' b) 25)
  unfold entCells at *
  go_enter Try.func49, Try.ntmps49
  go_wp2_with (refine (bytesCompare_ok _ _ _ _ _ h1 h2).mono ?_; rintro e w' ⟨rfl, rfl⟩)
  go_ret
  exact ⟨rfl, ((Ext.refl _).alloc _).alloc _⟩
set_option maxHeartbeats 400000 in
theorem step4_ok (r q x r' q' x' : Value) (a b : Ent) (w : World) (ha : RdE w r q x a) (hb : RdE w r' q' x' b) : Calls Try.prog 55 #[.agg (entCells r q x a), .agg (entCells r' q' x' b)] w (OutN w (cmpS a.qual b.qual)) := by
  have h1 := (ha.qual.alloc (.cells (entCells r q x a) 25)).alloc (.cells (entCells r' q' x' b) 25)
  have h2 := (hb.qual.alloc (.cells (entCells r q x a) 25)).alloc (.cells (entCells r' q' x' b) 25)
  unfold entCells at *
  go_enter Try.func55, Try.ntmps55
  go_wp2_with (refine (bytesCompare_ok _ _ _ _ _ h1 h2).mono ?_; rintro e w' ⟨rfl, rfl⟩)
  go_ret
  exact ⟨rfl, ((Ext.refl _).alloc _).alloc _⟩
set_option maxHeartbeats 400000 in
theorem step2_ok (r q x r' q' x' : Value) (a b : Ent) (w : World) : Calls Try.prog 51 #[.agg (entCells r q x a), .agg (entCells r' q' x' b)] w (OutN w (cmpN a.fam b.fam)) := by
  unfold entCells at *
  go_enter Try.func51, Try.ntmps51
  go_wp2_with (refine (cmpCompare_ok _ _ _).mono ?_; rintro e w' ⟨rfl, rfl⟩)
  go_ret
  exact ⟨rfl, ((Ext.refl _).alloc _).alloc _⟩
set_option maxHeartbeats 400000 in
theorem step6_ok (r q x r' q' x' : Value) (a b : Ent) (w : World) : Calls Try.prog 57 #[.agg (entCells r q x a), .agg (entCells r' q' x' b)] w (OutN w (cmpN b.ts a.ts)) := by
  unfold entCells at *
  go_enter Try.func57, Try.ntmps57
  go_wp2_with (refine (cmpCompare_ok _ _ _).mono ?_; rintro e w' ⟨rfl, rfl⟩)
  go_ret
  exact ⟨rfl, ((Ext.refl _).alloc _).alloc _⟩
set_option maxHeartbeats 400000 in
theorem step7_ok (r q x r' q' x' : Value) (a b : Ent) (w : World) : Calls Try.prog 58 #[.agg (entCells r q x a), .agg (entCells r' q' x' b)] w (OutN w (cmpN b.seq a.seq)) := by
  unfold entCells at *
  go_enter Try.func58, Try.ntmps58
  go_wp2_with (refine (cmpCompare_ok _ _ _).mono ?_; rintro e w' ⟨rfl, rfl⟩)
  go_ret
  exact ⟨rfl, ((Ext.refl _).alloc _).alloc _⟩
set_option maxHeartbeats 400000 in
theorem step8_ok (r q x r' q' x' : Value) (a b : Ent) (w : World) : Calls Try.prog 59 #[.agg (entCells r q x a), .agg (entCells r' q' x' b)] w (OutN w (cmpN a.kind b.kind)) := by
  unfold entCells at *
  go_enter Try.func59, Try.ntmps59
  go_wp2_with (refine (cmpCompare_ok _ _ _).mono ?_; rintro e w' ⟨rfl, rfl⟩)
  go_ret
  exact ⟨rfl, ((Ext.refl _).alloc _).alloc _⟩

set_option maxHeartbeats 400000 in
theorem first_ok (k : Int) (r q x r' q' x' : Value) (a b : Ent) (w : World) : Calls Try.prog 54 #[.int .i64 k, .agg (entCells r q x a), .agg (entCells r' q' x' b)] w (OutN w (firstN k a b)) := by
  obtain ⟨R, hR⟩ : ∃ R, R = firstN k a b := ⟨_, rfl⟩
  rw [← hR]
  unfold firstN at hR
  have HR := Lib.hid hR
  clear hR
  unfold entCells
  go_enter Try.func54, Try.ntmps54
  go_wp2
  go_quiet (fail)
  go_wp2
  all_goals
    go_ret
    refine ⟨ret_int ?_, (((Ext.refl _).alloc _).alloc _).drewN _⟩
    rw [HR.out]
    repeat' split
    all_goals first
      | rfl
      | (exfalso; simp_all; done)
set_option maxHeartbeats 400000 in
theorem step3_ok (r q x r' q' x' : Value) (a b : Ent) (w : World) : Calls Try.prog 53 #[.agg (entCells r q x a), .agg (entCells r' q' x' b)] w (OutN w (firstN 5 a b)) := by
  unfold entCells at *
  go_enter Try.func53, Try.ntmps53
  go_wp2_with (refine (first_ok _ r q x r' q' x' a b _).mono ?_; rintro e w' ⟨rfl, he⟩)
  go_ret
  exact ⟨rfl, (((Ext.refl _).alloc _).alloc _).trans he⟩
set_option maxHeartbeats 400000 in
theorem step5_ok (r q x r' q' x' : Value) (a b : Ent) (w : World) : Calls Try.prog 56 #[.agg (entCells r q x a), .agg (entCells r' q' x' b)] w (OutN w (firstN 4 a b)) := by
  unfold entCells at *
  go_enter Try.func56, Try.ntmps56
  go_wp2_with (refine (first_ok _ r q x r' q' x' a b _).mono ?_; rintro e w' ⟨rfl, he⟩)
  go_ret
  exact ⟨rfl, (((Ext.refl _).alloc _).alloc _).trans he⟩

/-- The comparisons, one behind the other. -/
def stepF : Nat → Nat
  | 0 => 49 | 1 => 51 | 2 => 53 | 3 => 55
  | 4 => 56 | 5 => 57 | 6 => 58 | _ => 59
def stepL (a b : Ent) : Nat → Int
  | 0 => cmpS a.row b.row | 1 => cmpN a.fam b.fam | 2 => firstN 5 a b | 3 => cmpS a.qual b.qual
  | 4 => firstN 4 a b | 5 => cmpN b.ts a.ts | 6 => cmpN b.seq a.seq | _ => cmpN a.kind b.kind
theorem step_ok (k : Nat) (hk : k < 8) (r q x r' q' x' : Value) (a b : Ent) (w : World) (ha : RdE w r q x a) (hb : RdE w r' q' x' b) :
    Calls Try.prog (stepF k) #[.agg (entCells r q x a), .agg (entCells r' q' x' b)] w (OutN w (stepL a b k)) := by
  rcases (show k = 0 ∨ k = 1 ∨ k = 2 ∨ k = 3 ∨ k = 4 ∨ k = 5 ∨ k = 6 ∨ k = 7 by omega) with rfl | rfl | rfl | rfl | rfl | rfl | rfl | rfl
  · exact step1_ok r q x r' q' x' a b w ha hb
  · exact step2_ok r q x r' q' x' a b w
  · exact step3_ok r q x r' q' x' a b w
  · exact step4_ok r q x r' q' x' a b w ha hb
  · exact step5_ok r q x r' q' x' a b w
  · exact step6_ok r q x r' q' x' a b w
  · exact step7_ok r q x r' q' x' a b w
  · exact step8_ok r q x r' q' x' a b w
theorem stepF_run (k : Nat) (hk : k < 8) (args : Array Value) (w : World) : (callFunc (stepF k) args).run Try.prog w = .ok (.enter (stepF k) args) w := by
  have h : ∀ f fn, Try.prog.funcs[f]? = some fn → (fn.name == "runtime.NumGoroutine") = false → fn.body.isNone = false → (callFunc f args).run Try.prog w = .ok (.enter f args) w := by
    intro f fn h1 h2 h3
    have h2' : fn.name ≠ "runtime.NumGoroutine" := by simpa using h2
    have h3' : fn.body ≠ none := by intro e; rw [e] at h3; simp at h3
    simp [callFunc, h1, h2', h3']
  rcases (show k = 0 ∨ k = 1 ∨ k = 2 ∨ k = 3 ∨ k = 4 ∨ k = 5 ∨ k = 6 ∨ k = 7 by omega) with rfl | rfl | rfl | rfl | rfl | rfl | rfl | rfl
  · exact h _ _ Try.func49 (by kernel_rfl) (by kernel_rfl)
  · exact h _ _ Try.func51 (by kernel_rfl) (by kernel_rfl)
  · exact h _ _ Try.func53 (by kernel_rfl) (by kernel_rfl)
  · exact h _ _ Try.func55 (by kernel_rfl) (by kernel_rfl)
  · exact h _ _ Try.func56 (by kernel_rfl) (by kernel_rfl)
  · exact h _ _ Try.func57 (by kernel_rfl) (by kernel_rfl)
  · exact h _ _ Try.func58 (by kernel_rfl) (by kernel_rfl)
  · exact h _ _ Try.func59 (by kernel_rfl) (by kernel_rfl)

def stepsV : Array Value := #[.func (.func (stepF 0)) #[] #[], .func (.func (stepF 1)) #[] #[], .func (.func (stepF 2)) #[] #[], .func (.func (stepF 3)) #[] #[],
  .func (.func (stepF 4)) #[] #[], .func (.func (stepF 5)) #[] #[], .func (.func (stepF 6)) #[] #[], .func (.func (stepF 7)) #[] #[]]
set_option maxHeartbeats 400000 in
theorem steps_ok (w : World) : Calls Try.prog 35 #[] w fun e w' => e = .returned (.agg stepsV) ∧ Ext w w' := by
  go_enter Try.func35, Try.ntmps35
  go_wp2
  exact bodyPost_ret (v := .agg stepsV) (by simp [results, Try.results35, go_sem]; rfl) rfl ⟨rfl, (Ext.refl _).alloc _⟩

theorem stepsV_at (k : Nat) (hk : k < 8) (w : World) : (Instr.index 68 (.agg stepsV) (.int .i64 (k : Int))).run Try.prog w = .ok (.func (.func (stepF k)) #[] #[]) w := by
  rcases (show k = 0 ∨ k = 1 ∨ k = 2 ∨ k = 3 ∨ k = 4 ∨ k = 5 ∨ k = 6 ∨ k = 7 by omega) with rfl | rfl | rfl | rfl | rfl | rfl | rfl | rfl <;> kernel_rfl

/-- The first comparison, from the k-th on, that parts them. -/
def cmpFrom (a b : Ent) : Nat → Nat → Int
  | 0, _ => 0
  | n + 1, k => if stepL a b k ≠ 0 then stepL a b k else cmpFrom a b n (k + 1)
def compareL (a b : Ent) : Int := cmpFrom a b 8 0

set_option maxHeartbeats 400000 in
theorem Compare_ok (r q x r' q' x' : Value) (a b : Ent) (w : World) (ha : RdE w r q x a) (hb : RdE w r' q' x' b) :
    Calls Try.prog 21 #[.agg (entCells r q x a), .agg (entCells r' q' x' b)] w (OutN w (compareL a b)) := by
  obtain ⟨R, hR⟩ : ∃ R, R = compareL a b := ⟨_, rfl⟩
  rw [← hR]
  have HR := Lib.hid hR.symm
  clear hR
  have he0 : Ext w ((w.alloc (.cells (entCells r q x a) 25)).alloc (.cells (entCells r' q' x' b) 25)) := ((Ext.refl _).alloc _).alloc _
  unfold entCells at he0
  obtain ⟨W, hW⟩ : ∃ W, W = ((w.alloc (.cells (entCells r q x a) 25)).alloc (.cells (entCells r' q' x' b) 25)) := ⟨_, rfl⟩
  have hra : ∀ {w1 : World}, Ext w w1 → RdE w1 r q x a := fun h => ha.ext h
  have hrb : ∀ {w1 : World}, Ext w w1 → RdE w1 r' q' x' b := fun h => hb.ext h
  have HA := Lib.hid ha
  have HB := Lib.hid hb
  clear ha hb hra hrb
  unfold entCells at hW ⊢
  go_enter Try.func21, Try.ntmps21
  go_wp2_with fail
  rw [← hW] at he0 ⊢
  have hsz : w.heap.size + 1 < W.heap.size := by rw [hW]; simp
  have hc1 : ∀ o, W.cell? ⟨w.heap.size, o, none⟩ = (entCells r q x a)[o]? := fun o => by rw [hW]; simp [entCells]
  have hc2 : ∀ o, W.cell? ⟨w.heap.size + 1, o, none⟩ = (entCells r' q' x' b)[o]? := fun o => by rw [hW]; simp [entCells]
  clear hW
  refine (steps_ok _).mono ?_
  rintro e w1 ⟨rfl, he1⟩
  go_wp2
  go_loopw [9] (fun i wr => ∃ k : Nat, i = .int .i64 k ∧ k ≤ 8 ∧ Hid (cmpFrom a b (8 - k) k = R) ∧ Ext W wr) (fun i _ => (8 - intOf i).toNat)
  case atStart => exact ⟨0, rfl, by omega, HR.out, he1⟩
  case round =>
    obtain ⟨k, rfl, hk, hr, he⟩ := hrel
    clear HR
    by_cases hlt : k < 8
    · have hd := hr.out
      have e8 : 8 - k = (8 - (k + 1)) + 1 := by omega
      rw [e8] at hd
      simp only [cmpFrom] at hd
      have hix := stepsV_at k hlt
      have hcall := stepF_run k hlt
      have hcs := he.cells
      have hcell1 : ∀ o, wr.cell? ⟨w.heap.size, o, none⟩ = (entCells r q x a)[o]? := fun o => (hcs _ _ (by omega)).trans (hc1 o)
      have hcell2 : ∀ o, wr.cell? ⟨w.heap.size + 1, o, none⟩ = (entCells r' q' x' b)[o]? := fun o => (hcs _ _ (by omega)).trans (hc2 o)
      have hst := step_ok k hlt r q x r' q' x' a b wr (HA.out.ext (he0.trans he)) (HB.out.ext (he0.trans he))
      have HS := Lib.hid hst
      clear hst hcs hc1 hc2 e8
      unfold entCells at hcell1 hcell2 HS
      generalize stepF k = f at *
      generalize stepL a b k = c at *
      by_cases h0 : c = 0
      · rw [if_neg (by simpa using h0)] at hd
        have HD := Lib.hid hd
        subst h0
        clear hd hr
        go_wp2_with (refine HS.out.mono ?_; rintro e w2 ⟨rfl, he2⟩)
        go_roundw
        case rel => exact ⟨k + 1, by go_num, by omega, HD.out, he.trans he2⟩
        case measure => simp [intOf]; omega
      · rw [if_pos (by simpa using h0)] at hd
        have HD := Lib.hid hd
        have hb : ((c : Int) != 0) = true := by simpa using h0
        clear hd hr h0
        go_wp2_with (refine HS.out.mono ?_; rintro e w2 ⟨rfl, he2⟩)
        go_ret
        exact ⟨by rw [← HD.out]; rfl, (he0.trans he).trans he2⟩
    · have hd : cmpFrom a b (8 - k) k = R := hr.out
      rw [show 8 - k = 0 by omega] at hd
      have HD := Lib.hid hd
      clear hd hr
      go_wp2
      go_ret
      exact ⟨by rw [← HD.out]; rfl, he0.trans he⟩
end Go.Proofs.Ytckhefkedkipeaa

/- The document's comparison of entries answers as cell.Compare does. -/
import Derived.Test.YtckhefkedkipeaaOrd
import Derived.Deep.LoopGhost
namespace Go.Proofs.Ytckhefkedkipeaa
open Go.RowKit

set_option maxHeartbeats 400000 in
theorem rnumber_ok (a b : Int) (w : World) : Calls Try.prog 38 #[.int .i64 a, .int .i64 b] w fun e w' => e = .returned (.int .i64 (cmpN a b)) ∧ w' = w := by
  by_cases h1 : a < b
  · have e : cmpN a b = -1 := if_pos h1
    rw [e]
    go_enter Try.func38, Try.ntmps38
    go_wp2
    go_ret
    exact ⟨rfl, rfl⟩
  · by_cases h2 : b < a
    · have e : cmpN a b = 1 := by unfold cmpN; rw [if_neg h1, if_pos h2]
      rw [e]
      go_enter Try.func38, Try.ntmps38
      go_wp2
      go_ret
      exact ⟨rfl, rfl⟩
    · have e : cmpN a b = 0 := by unfold cmpN; rw [if_neg h1, if_neg h2]
      rw [e]
      go_enter Try.func38, Try.ntmps38
      go_wp2
      go_ret
      exact ⟨rfl, rfl⟩
def firstB (x y : Bool) : Int := if (x == y) = true then 0 else if x = true then -1 else 1
theorem firstB_eq (k : Int) (a b : Ent) : firstB (a.kind == k) (b.kind == k) = firstN k a b := rfl
set_option maxHeartbeats 400000 in
theorem rfirst_ok (x y : Bool) (w : World) : Calls Try.prog 39 #[.bool x, .bool y] w fun e w' => e = .returned (.int .i64 (firstB x y)) ∧ w' = w := by
  cases x <;> cases y
  all_goals
    go_enter Try.func39, Try.ntmps39
    go_wp2
    go_ret
    exact ⟨rfl, rfl⟩

set_option maxHeartbeats 400000 in
theorem rBytes_ok (v u : Value) (l m : List Int) (w : World) (hv : RdB w v l) (hu : RdB w u m)  (h2 : m.length ≤ 140737488355328) :
    Calls Try.prog 37 #[v, u] w fun e w' => e = .returned (.int .i64 (cmpI l m)) ∧ ∃ n, w' = w.drewN n := by
  obtain ⟨R, hR⟩ : ∃ R, R = cmpI l m := ⟨_, rfl⟩
  rw [← hR]
  have HR := Lib.hid hR.symm
  clear hR
  obtain ⟨A, c, rfl, hc⟩ := hv.shape
  obtain ⟨B, d, rfl, hd⟩ := hu.shape
  have HV := Lib.hid hv
  have HU := Lib.hid hu
  clear hv hu
  go_enter Try.func37, Try.ntmps37
  go_wp2_with fail
  go_loopg [5] l.length (fun g x wr => ∃ k : Nat, x = .int .i64 k ∧ k + g = l.length ∧ k ≤ m.length ∧ Hid (cmpI (l.drop k) (m.drop k) = R) ∧ ∃ n, wr = w.drewN n)
  case atStart => exact ⟨0, rfl, by omega, by omega, (show cmpI (l.drop 0) (m.drop 0) = R by simpa using HR.out), 0, rfl⟩
  case round =>
    obtain ⟨k, rfl, hkg, hkm, hr, n, hn⟩ := hrel
    have HN := Lib.hid hn
    have he : Ext w wr := by rw [hn]; exact (Ext.refl _).drewN n
    have hkl : k ≤ l.length := by omega
    clear hn HR
    by_cases hlt : k < l.length ∧ k < m.length
    · obtain ⟨hl1, hl2⟩ := hlt
      obtain ⟨a, rfl, ha⟩ := (HV.out.ext he).at_ k hl1
      obtain ⟨b, rfl, hb⟩ := (HU.out.ext he).at_ k hl2
      have hs := hr.out
      rw [cmpI_step l m k hl1 hl2] at hs
      have HS := Lib.hid hs
      clear hs hr
      generalize gt l k = x at *
      generalize gt m k = y at *
      have e1 : ((k : Int) < (l.length : Int)) := by omega
      have e2 : ((k : Int) < (m.length : Int)) := by omega
      have e3 : (0 : Int) ≤ (k : Int) := by omega
      by_cases hxy : x < y
      · have hs := HS.out
        rw [if_pos hxy] at hs
        have HS2 := Lib.hid hs
        clear hs HS
        go_wp2_with fail
        go_quiet (fail)
        go_wp2
        go_ret
        exact ⟨by rw [← HS2.out]; rfl, n + _, by rw [HN.out, World.drewN_drewN]⟩
      · by_cases hyx : y < x
        · have hs := HS.out
          rw [if_neg hxy, if_pos hyx] at hs
          have HS2 := Lib.hid hs
          clear hs HS
          go_wp2_with fail
          go_quiet (fail)
          go_wp2_with fail
          go_quiet (fail)
          go_wp2
          go_ret
          exact ⟨by rw [← HS2.out]; rfl, _, by rw [HN.out]; simp only [World.drewN_drewN]; exact rfl⟩
        · have hs := HS.out
          rw [if_neg hxy, if_neg hyx] at hs
          have HS2 := Lib.hid hs
          clear hs HS
          go_wp2_with fail
          go_quiet (fail)
          go_wp2_with fail
          go_quiet (fail)
          go_wp2
          go_roundg (gk - 1)
          case measure => omega
          case rel => exact ⟨k + 1, by go_num, by omega, by omega, HS2.out, _, by rw [HN.out]; simp only [World.drewN_drewN]; exact rfl⟩
    · have hs := hr.out
      have hend : k = l.length ∨ k = m.length := by omega
      rw [cmpI_end l m k hend (by omega) (by omega)] at hs
      have HS2 := Lib.hid hs
      clear hs hr hkg
      have e1 : ¬ ((k : Int) < (l.length : Int) ∧ (k : Int) < (m.length : Int)) := by omega
      clear hlt hend
      by_cases hl1 : k < l.length
      · have e3 : ((k : Int) < (l.length : Int)) := by omega
        have e2 : ¬ ((k : Int) < (m.length : Int)) := by omega
        clear e1
        go_wp2_with (go_at_call 38; refine (rnumber_ok _ _ _).mono ?_; rintro e w' ⟨rfl, rfl⟩)
        go_ret
        exact ⟨by rw [← HS2.out]; rfl, n, HN.out⟩
      · have e3 : ¬ ((k : Int) < (l.length : Int)) := by omega
        clear e1
        go_wp2_with (go_at_call 38; refine (rnumber_ok _ _ _).mono ?_; rintro e w' ⟨rfl, rfl⟩)
        go_ret
        exact ⟨by rw [← HS2.out]; rfl, n, HN.out⟩
end Go.Proofs.Ytckhefkedkipeaa

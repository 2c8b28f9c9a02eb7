/- What the statement of layer 2 calls: bytes compared, copied, laid into new memory; entries laid. -/
import Derived.Test.YtckhefkedkipeaaRefKey
namespace Go.Proofs.Ytckhefkedkipeaa
open Go.RowKit

set_option maxHeartbeats 400000 in
theorem same_ok (v u : Value) (l : List Int) (w : World) (hv : RdB w v l) (hu : RdB w u l) (hl : l.length ≤ 140737488355328) :
    Calls Try.prog 45 #[v, u] w fun e w' => e = .returned (.bool true) ∧ Ext w w' := by
  obtain ⟨A, c, rfl, hc⟩ := hv.shape
  obtain ⟨B, d, rfl, hd⟩ := hu.shape
  have hcV : ∀ (k : Nat), k < l.length → ∃ a b, A = some a ∧ B = some b ∧ w.cell? (a.add k) = some (.int .u8 (gt l k)) ∧ w.cell? (b.add k) = some (.int .u8 (gt l k)) := by
    intro k hk
    obtain ⟨a, ha, h1⟩ := hv.at_ k hk
    obtain ⟨b, hb, h2⟩ := hu.at_ k hk
    exact ⟨a, b, ha, hb, h1, h2⟩
  have HC := Lib.hid hcV
  clear hcV hv hu
  go_enter Try.func45, Try.ntmps45
  go_wp2
  go_loopw [5] (fun x wr => Ext w wr ∧ ∃ k : Nat, k ≤ l.length ∧ x = .int .i64 k) (fun x _ => l.length - (intOf x).toNat)
  case atStart => exact ⟨Ext.refl _, 0, by omega, rfl⟩
  case round =>
    obtain ⟨he, k, hk, rfl⟩ := hrel
    by_cases hlt : k < l.length
    · obtain ⟨a, b, rfl, rfl, h1', h2'⟩ := HC.out k hlt
      have h1 := he.cell h1'
      have h2 := he.cell h2'
      clear h1' h2'
      generalize gt l k = g at *
      go_wp2_with fail
      go_quiet (fail)
      go_wp2
      go_roundw
      case rel => exact ⟨he.drewN _, k + 1, by omega, by go_num⟩
      case measure => simp [intOf]; omega
    · have hkl2 : l.length ≤ k := by omega
      go_wp2
      go_ret
      exact ⟨rfl, he⟩

set_option maxHeartbeats 400000 in
theorem copied_ok (v : Value) (l : List Int) (w : World) (hv : RdB w v l) (hl : l.length ≤ 140737488355328) : Calls Try.prog 44 #[v] w (OutB w l) := by
  go_enter Try.func44, Try.ntmps44
  go_wp2_with (at_builtin; refine appB rfl (.tmp 4) (.tmp 5) rfl rfl rfl (OwB.nil _) hv (by simp; omega) ?_; intro v' w1 ho hg hat)
  go_ret
  exact ⟨_, rfl, ho, From.app (From.nil _ _ _) hat (Nat.le_refl _), (Ext.refl _).grown hg (From.nil _ _ _)⟩

/-- Owned bytes, cut. -/
theorem OwB.cut {W : World} {A : Option Addr} {n c : Nat} {l : List Int} (hv : OwB W (.slice A n c) l) (h : Nat) (hh : h ≤ l.length) : OwB W (.slice A h c) (l.take h) := by
  have e : (nums .u8 l).take (h * 1) = nums .u8 (l.take h) := by simp [nums, List.map_take]
  have e2 : (l.take h).length = h := by simp; omega
  rcases hv.2 with ⟨hs, h0⟩ | ⟨g, cap, cur, hs, hg, hn, hcm, hcs, ht⟩
  · cases hs
    have hl0 : l = [] := List.eq_nil_of_length_eq_zero h0
    subst hl0
    have hh0 : h = 0 := by simpa using hh
    subst hh0
    simpa using OwB.nil W
  · cases hs
    refine ⟨by simp [nums], .inr ⟨g, c, cur, by rw [e2], hg, by omega, hcm, hcs, ?_⟩⟩
    rw [← e, ← ht, List.take_take, e2]
    congr 1
    omega
theorem From.cut {lo : Nat} {A : Option Addr} {n c : Nat} (hv : From lo (.slice A n c)) (h : Nat) : From lo (.slice A h c) := by
  intro k hk; refine hv k ?_; cases A with
  | none => simp [Value.ownBlock] at hk
  | some a => simpa [Value.ownBlock] using hk
theorem take_len (l : List Int) (n : Nat) : (l.take n).length ≤ l.length := by simp; omega
/-- An entry whose byte strings are cut at 5000. -/
def Ent.cut (e : Ent) : Ent := ⟨e.row.take 5000, e.fam, e.qual.take 5000, e.ts, e.seq, e.kind, e.value.take 5000⟩
theorem Ent.Fits.cut {e : Ent} (h : e.Fits) : e.cut.Fits :=
  ⟨h.fam, h.ts, h.seq, h.kind, Nat.le_trans (take_len _ _) h.row, Nat.le_trans (take_len _ _) h.qual, Nat.le_trans (take_len _ _) h.value⟩
/-- An entry in new memory. -/
def OutE (w : World) (y : Ent) (e : Ending) (w' : World) : Prop :=
  ∃ r q x, e = .returned (.agg (entCells r q x y)) ∧ OwE w' r q x y ∧ FromE w.heap.size r q x ∧ Ext w w'

end Go.Proofs.Ytckhefkedkipeaa

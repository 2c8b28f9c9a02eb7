/- Does each still hold its mark? What is told of an entry that may be. -/
import Derived.Test.YtckhefkedkipeaaSettle2
namespace Go.Proofs.Ytckhefkedkipeaa
open Go.RowKit

set_option maxHeartbeats 1000000 in
set_option maxRecDepth 100000 in
theorem Settled_ok (w : World) (N p i : Nat) (Lv Wv : Value) (its : List It) (hk : Lst w N p Lv Wv its i) (hm : ∀ k it, its[k]? = some it → it.l = List.replicate it.l.length (mark k)) (hn : its.length ≤ 1000) :
    Calls Try.prog 15 #[.pointer (some ⟨p, 0, none⟩)] w fun e w' => e = .returned (.bool true) ∧ Ext w w' := by
  obtain ⟨Al, cl, rfl, hcl⟩ := hk.L.shape
  obtain ⟨Aw, cw, rfl, hcw⟩ := hk.W.shape
  have HA := Lib.hid hk
  have HM := Lib.hid hm
  have hcv := hk.var.cell
  have hp := hk.var.lt
  clear hk hm
  go_enter Try.func15, Try.ntmps15
  go_wp2
  go_loopw [3] (fun x wr => Ext w wr ∧ ∃ k : Nat, k ≤ its.length ∧ x = .int .i64 k) (fun x _ => its.length - (intOf x).toNat)
  case atStart => exact ⟨Ext.refl _, 0, by omega, rfl⟩
  case round =>
    obtain ⟨he, k, hk, rfl⟩ := hrel
    have hc := fun o => (he.cells p o hp).trans (hcv o)
    by_cases hlt : k < its.length
    · obtain ⟨a, A1, c1, u, l, m, rfl, hI, hC, hO, hS⟩ := (HA.out.ext he).at2 rfl k hlt
      have hlk : l = List.replicate l.length (mark k) := HM.out k _ hI
      have HLK := Lib.hid hlk
      have HO := Lib.hid hO
      clear hI hlk hO
      go_wp2_with fail
      go_loopw [4] (fun x wq => Ext wr wq ∧ ∃ c : Nat, c ≤ l.length ∧ x = .int .i64 c) (fun x _ => l.length - (intOf x).toNat)
      case atStart => exact ⟨Ext.refl _, 0, by omega, rfl⟩
      case round =>
        obtain ⟨he6, c, hcc, rfl⟩ := hrel
        have hcq := fun o => (he6.cells p o (Nat.lt_of_lt_of_le hp he.size)).trans (hc o)
        have hC4 := he6.cell hC
        by_cases hcl2 : c < l.length
        · obtain ⟨av, rfl, hbv⟩ := (HO.out.ext he6).at_ c hcl2
          have e2 : gt l c = mark k := by
            conv => lhs; rw [HLK.out]
            exact gt_rep _ _ _ hcl2
          rw [e2] at hbv
          clear e2
          unfold mark at hbv
          clear hc hC
          go_wp2
          go_roundw
          case rel => exact ⟨he6, c + 1, by omega, by go_num⟩
          case measure => simp [intOf]; omega
        · have hcl3 : l.length ≤ c := by omega
          clear hc hC
          go_wp2
          go_roundw
          case rel => exact ⟨he.trans he6, k + 1, by omega, by go_num⟩
          case measure => simp [intOf]; omega
    · have hkl2 : its.length ≤ k := by omega
      go_wp2
      go_ret
      exact ⟨rfl, he⟩

def badE : Ent := { plainE with ts := 0 }
def worseE : Ent := { plainE with ts := 0, seq := -1 }
theorem plainE_fits : plainE.Fits := by refine ⟨?_, ?_, ?_, ?_, by decide, by decide, by decide⟩ <;> (unfold isI64; decide)
theorem badE_fits : badE.Fits := by refine ⟨?_, ?_, ?_, ?_, by decide, by decide, by decide⟩ <;> (unfold isI64; decide)
theorem worseE_fits : worseE.Fits := by refine ⟨?_, ?_, ?_, ?_, by decide, by decide, by decide⟩ <;> (unfold isI64; decide)
theorem plain_shape {w : World} {r q x : Value} (h : RdE w r q x plainE) : ∃ A1 c1 A2 c2 A3 c3, r = .slice A1 1 c1 ∧ q = .slice A2 1 c2 ∧ x = .slice A3 1 c3 := by
  obtain ⟨A1, c1, e1, _⟩ := h.row.shape
  obtain ⟨A2, c2, e2, _⟩ := h.qual.shape
  obtain ⟨A3, c3, e3, _⟩ := h.value.shape
  exact ⟨A1, c1, A2, c2, A3, c3, e1, e2, e3⟩
theorem set3 {w : World} {b T : Nat} {a0 a1 a2 a3 a4 a5 a6 : Value} (h : Var w b T #[a0, a1, a2, a3, a4, a5, a6]) (v : Value) : Var (w.setCell ⟨b, 3, none⟩ v) b T #[a0, a1, a2, v, a4, a5, a6] := by
  have := h.set 3 v; simpa using this
theorem set4 {w : World} {b T : Nat} {a0 a1 a2 a3 a4 a5 a6 : Value} (h : Var w b T #[a0, a1, a2, a3, a4, a5, a6]) (v : Value) : Var (w.setCell ⟨b, 4, none⟩ v) b T #[a0, a1, a2, a3, v, a5, a6] := by
  have := h.set 4 v; simpa using this
end Go.Proofs.Ytckhefkedkipeaa

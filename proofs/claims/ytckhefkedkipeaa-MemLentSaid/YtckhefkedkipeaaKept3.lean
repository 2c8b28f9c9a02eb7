/- Do all hold what they held? -/
import Derived.Test.YtckhefkedkipeaaKept2
namespace Go.Proofs.Ytckhefkedkipeaa
open Go.RowKit

theorem Kst.at_ {w : World} {N p : Nat} {its : List It} {Al Aw : Option Addr} {cl cw : Nat} (h : Kst w N p (.slice Al its.length cl) (.slice Aw its.length cw) its) (k : Nat) (hk : k < its.length) :
    ∃ a b A1 c1 A2 c2 l m, Al = some a ∧ Aw = some b ∧ its[k]? = some ⟨.slice A1 (List.length l) c1, .slice A2 (List.length m) c2, l, m⟩ ∧ w.cell? (a.add k) = some (.slice A1 l.length c1) ∧ w.cell? (b.add k) = some (.slice A2 m.length c2) ∧
      OwB w (.slice A1 l.length c1) l ∧ OwB w (.slice A2 m.length c2) m ∧ l.length ≤ 140737488350000 ∧ m.length ≤ 140737488350000 := by
  have hit := List.getElem?_eq_getElem hk
  have hmem := List.getElem_mem hk
  have ho := h.own _ hmem
  have hsm := h.small _ hmem
  generalize its[k] = it at *
  obtain ⟨v, u, l, m⟩ := it
  obtain ⟨A1, c1, hv, _⟩ := ho.1.rd.shape
  obtain ⟨A2, c2, hu, _⟩ := ho.2.rd.shape
  simp only at hv hu ho hsm
  subst hv hu
  obtain ⟨_, A, c, e, _, hcells⟩ := h.L.rd
  cases e
  obtain ⟨a, e1, h1⟩ := hcells k (.slice A1 l.length c1) (by simp [hit])
  obtain ⟨_, A, c, e, _, hcells⟩ := h.W.rd
  cases e
  obtain ⟨b, e2, h2⟩ := hcells k (.slice A2 m.length c2) (by simp [hit])
  exact ⟨a, b, A1, c1, A2, c2, l, m, e1, e2, hit, h1, h2, ho.1, ho.2, hsm.1, hsm.2⟩

set_option maxHeartbeats 1000000 in
set_option maxRecDepth 100000 in
theorem Untouched_ok (w : World) (N p : Nat) (Lv Wv : Value) (its : List It) (hk : Kst w N p Lv Wv its) (hs : ∀ it ∈ its, it.l = it.m) (hn : its.length ≤ 1000) :
    Calls Try.prog 30 #[.pointer (some ⟨p, 0, none⟩)] w fun e w' => e = .returned (.bool true) ∧ Ext w w' := by
  obtain ⟨Al, cl, rfl, hcl⟩ := hk.L.shape
  obtain ⟨Aw, cw, rfl, hcw⟩ := hk.W.shape
  have HA := Lib.hid hk
  have HS := Lib.hid hs
  have hcv := hk.var.cell
  have hp := hk.var.lt
  clear hk hs
  go_enter Try.func30, Try.ntmps30
  go_wp2
  go_loopw [3] (fun x wr => Ext w wr ∧ ∃ k : Nat, k ≤ its.length ∧ x = .int .i64 k) (fun x _ => its.length - (intOf x).toNat)
  case atStart => exact ⟨Ext.refl _, 0, by omega, rfl⟩
  case round =>
    obtain ⟨he, k, hk, rfl⟩ := hrel
    have hc := fun o => (he.cells p o hp).trans (hcv o)
    by_cases hlt : k < its.length
    · obtain ⟨a, b, A1, c1, A2, c2, l, m, rfl, rfl, hit, h1, h2, ho1, ho2, hl1, hl2⟩ := (HA.out.ext he).at_ k hlt
      have hlm : l = m := HS.out _ (List.mem_of_getElem? hit)
      subst hlm
      have h10 : (0 : Int) ≤ (k : Int) := by omega
      have h11 : (k : Int) < (its.length : Int) := by omega
      have hle : l.length ≤ 140737488355328 := by omega
      have HI := Lib.hid hit
      have HO1 := Lib.hid ho1.rd
      have HO2 := Lib.hid ho2.rd
      clear hit ho1 ho2
      go_wp2_with fail
      have keepS : ∀ w', Ext wr w' → w'.cell? ⟨p, 0, none⟩ = some (.slice (some a) its.length cl) ∧ w'.cell? ⟨p, 1, none⟩ = some (.slice (some b) its.length cw) ∧ w'.cell? (a.add k) = some (.slice A1 l.length c1) ∧ w'.cell? (b.add k) = some (.slice A2 l.length c2) :=
        fun w' h => ⟨h.cell (by rw [hc]; rfl), h.cell (by rw [hc]; rfl), h.cell h1, h.cell h2⟩
      have HK := Lib.hid keepS
      clear keepS hc h1 h2
      go_region_held3 (fun w' => w'.cell? ⟨p, 0, none⟩ = some (.slice (some a) its.length cl) ∧ w'.cell? ⟨p, 1, none⟩ = some (.slice (some b) its.length cw) ∧ w'.cell? (a.add k) = some (.slice A1 l.length c1) ∧ w'.cell? (b.add k) = some (.slice A2 l.length c2))
        (first | exact HK.out _ (Ext.refl _).drew | exact HK.out _ ((Ext.refl _).drew.trans he2))
        (first
          | (go_at_call 45; refine (same_ok _ _ l _ (HO1.out.ext (Ext.refl _).drew) (HO2.out.ext (Ext.refl _).drew) hle).mono ?_; rintro e0 w2 ⟨rfl, he2⟩))
      go_wp2
      go_roundw
      case rel => exact ⟨he.trans ((Ext.refl _).drew.trans he2), k + 1, by omega, by go_num⟩
      case measure => simp [intOf]; omega
    · have hkl2 : its.length ≤ k := by omega
      go_wp2
      go_ret
      exact ⟨rfl, he⟩
end Go.Proofs.Ytckhefkedkipeaa

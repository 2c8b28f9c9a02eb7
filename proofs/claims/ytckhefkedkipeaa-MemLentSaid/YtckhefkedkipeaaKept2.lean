/- An entry's byte strings kept; are all untouched? -/
import Derived.Test.YtckhefkedkipeaaKept
namespace Go.Proofs.Ytckhefkedkipeaa
open Go.RowKit

/-- What a call on Kept leaves: more was kept; only its tables may have been written. -/
structure KO (w : World) (N p : Nat) (Lv Wv : Value) (its new : List It) (w' : World) (Lv' Wv' : Value) : Prop where
  st : Kst w' N p Lv' Wv' (its ++ new)
  fr : Fr (Tb p Lv Wv) w w'
  clr : ∀ y, Clr (pcs p Lv Wv its) y → (∀ it ∈ new, Sep it.v y) → (∀ k, y.ownBlock = some k → k < w.heap.size) → Clr (pcs p Lv' Wv' (its ++ new)) y
theorem Kst.ext {w w' : World} {N p : Nat} {Lv Wv : Value} {its : List It} (h : Kst w N p Lv Wv its) (he : Ext w w') : Kst w' N p Lv Wv its :=
  ⟨h.var.ext he, h.L.ext he, h.W.ext he, fun it hit => ⟨(h.own it hit).1.ext he, (h.own it hit).2.ext he⟩, h.small, h.sep, h.frm⟩
theorem Kst.clr {w : World} {N p : Nat} {Lv Wv : Value} {its : List It} (h : Kst w N p Lv Wv its) {y : Value} (hy : From w.heap.size y) : Clr (pcs p Lv Wv its) y :=
  fun z hz k hk hk' => by have := h.lt z hz k hk; have := hy k hk'; omega
theorem Tb.clr {p : Nat} {Lv Wv : Value} {its : List It} {k : Nat} (h : Clr (pcs p Lv Wv its) (pv k)) : ¬ Tb p Lv Wv k := fun ht => h.off k (by simp [pv, Value.ownBlock]) ht
theorem Kst.tb {w : World} {N p : Nat} {Lv Wv : Value} {its : List It} (h : Kst w N p Lv Wv its) {k : Nat} (ht : Tb p Lv Wv k) : ∀ z ∈ vals its, z.ownBlock ≠ some k := by
  intro z hz hk
  have hs := h.sep
  simp only [pcs, List.pairwise_cons] at hs
  rcases ht with rfl | ht | ht
  · exact hs.1 z (by simp [hz]) k (by simp [pv, Value.ownBlock]) hk
  · exact hs.2.1 z (by simp [hz]) k ht hk
  · exact hs.2.2.1 z hz k ht hk
theorem vals_app2 (a b : List It) : vals (a ++ b) = vals a ++ vals b := by simp [vals]
/-- A block that was there and is one of the tables now was one before. -/
theorem KO.back {w w' : World} {N p : Nat} {Lv Wv Lv' Wv' : Value} {its new : List It} (h : KO w N p Lv Wv its new w' Lv' Wv') : ∀ k, k < w.heap.size → Tb p Lv' Wv' k → Tb p Lv Wv k := by
  intro k hk ht
  refine Classical.byContradiction fun hn => ?_
  have hz := h.st.tb ht
  refine Tb.clr (h.clr (pv k) ?_ ?_ ?_) ht
  · intro z hzm j hj hj'
    have ej : j = k := by simp [pv, Value.ownBlock] at hj'; exact hj'.symm
    subst ej
    simp only [pcs, List.mem_cons] at hzm
    rcases hzm with rfl | rfl | rfl | hzm
    · simp [pv, Value.ownBlock] at hj; exact hn (.inl hj.symm)
    · exact hn (.inr (.inl hj))
    · exact hn (.inr (.inr hj))
    · exact hz z (by rw [vals_app2]; simp [hzm]) hj
  · intro it hit j hj hj'
    have ej : j = k := by simp [pv, Value.ownBlock] at hj'; exact hj'.symm
    subst ej
    exact hz it.v (by simp only [vals, List.mem_flatMap]; exact ⟨it, by simp [hit], by simp⟩) hj
  · intro j hj
    simp [pv, Value.ownBlock] at hj
    omega
theorem KO.trans {w w1 w2 : World} {N p : Nat} {Lv Wv L1 W1 L2 W2 : Value} {its n1 n2 : List It} (h : KO w N p Lv Wv its n1 w1 L1 W1) (k : KO w1 N p L1 W1 (its ++ n1) n2 w2 L2 W2) : KO w N p Lv Wv its (n1 ++ n2) w2 L2 W2 := by
  refine ⟨by rw [← List.append_assoc]; exact k.st, ⟨k.fr.os.trans h.fr.os, k.fr.tape.trans h.fr.tape, k.fr.output.trans h.fr.output, Nat.le_trans h.fr.size k.fr.size, fun i hi hn => ?_⟩, fun y hy hs hlt => ?_⟩
  · exact (k.fr.block i (Nat.lt_of_lt_of_le hi h.fr.size) fun ht => hn (h.back i hi ht)).trans (h.fr.block i hi hn)
  · rw [← List.append_assoc]
    exact k.clr y (h.clr y hy (fun it hit => hs it (by simp [hit])) hlt) (fun it hit => hs it (by simp [hit])) fun j hj => Nat.lt_of_lt_of_le (hlt j hj) h.fr.size
theorem KO.before {w w1 w2 : World} {N p : Nat} {Lv Wv L1 W1 : Value} {its n1 : List It} (he : Ext w w1) (h : KO w1 N p Lv Wv its n1 w2 L1 W1) : KO w N p Lv Wv its n1 w2 L1 W1 :=
  ⟨h.st, (Fr.ext he _).trans h.fr, fun y hy hs hlt => h.clr y hy hs fun j hj => Nat.lt_of_lt_of_le (hlt j hj) he.size⟩
theorem KO.after {w w1 w2 : World} {N p : Nat} {Lv Wv L1 W1 : Value} {its n1 : List It} (h : KO w N p Lv Wv its n1 w1 L1 W1) (he : Ext w1 w2) : KO w N p Lv Wv its n1 w2 L1 W1 :=
  ⟨h.st.ext he, h.fr.trans (Fr.ext he _), h.clr⟩
theorem KO.none {w w' : World} {N p : Nat} {Lv Wv : Value} {its : List It} (h : Kst w N p Lv Wv its) (he : Ext w w') : KO w N p Lv Wv its [] w' Lv Wv :=
  ⟨by simpa using h.ext he, Fr.ext he _, fun y hy _ _ => by simpa using hy⟩
theorem KO.clr1 {w w' : World} {N p : Nat} {Lv Wv Lv' Wv' : Value} {its : List It} {it : It} (h : KO w N p Lv Wv its [it] w' Lv' Wv') {y : Value} (hy : Clr (pcs p Lv Wv its) y) (hs : Sep it.v y) (hlt : ∀ k, y.ownBlock = some k → k < w.heap.size) : Clr (pcs p Lv' Wv' (its ++ [it])) y :=
  h.clr y hy (fun i hi => by simp at hi; subst hi; exact hs) hlt
theorem Keep_out (w : World) (N p : Nat) (Lv Wv : Value) (its : List It) (x : Value) (l : List Int) (hk : Kst w N p Lv Wv its) (hx : OwB w x l) (hxl : l.length ≤ 140737488350000) (hxf : From N x) (hxc : Clr (pcs p Lv Wv its) x) (hn : its.length ≤ 1000) :
    Calls Try.prog 29 #[.pointer (some ⟨p, 0, none⟩), x] w fun e w' => e = .returned (.tuple #[]) ∧ ∃ Lv' Wv' c, KO w N p Lv Wv its [⟨x, c, l, l⟩] w' Lv' Wv' := by
  refine (Keep_ok w N p Lv Wv its x l hk hx hxl hxf hxc hn).mono ?_
  rintro e w' ⟨he, L, W, c, h1, h2, h3⟩
  exact ⟨he, L, W, c, h1, h2, fun y hy hs hlt => h3 y hy (hs ⟨x, c, l, l⟩ (by simp)) hlt⟩

set_option maxHeartbeats 1000000 in
set_option maxRecDepth 100000 in
theorem KEntry_ok (w : World) (N p : Nat) (Lv Wv : Value) (its : List It) (r q x : Value) (e : Ent) (hk : Kst w N p Lv Wv its) (he : OwE w r q x e) (hf : e.row.length ≤ 140737488350000 ∧ e.qual.length ≤ 140737488350000 ∧ e.value.length ≤ 140737488350000)
    (hN : FromE N r q x) (hr : Clr (pcs p Lv Wv its) r) (hq : Clr (pcs p Lv Wv its) q) (hx : Clr (pcs p Lv Wv its) x) (hn : its.length ≤ 900) :
    Calls Try.prog 13 #[.pointer (some ⟨p, 0, none⟩), .agg (entCells r q x e)] w fun e0 w' => e0 = .returned (.tuple #[]) ∧ ∃ Lv' Wv' c1 c2 c3, KO w N p Lv Wv its [⟨r, c1, e.row, e.row⟩, ⟨q, c2, e.qual, e.qual⟩, ⟨x, c3, e.value, e.value⟩] w' Lv' Wv' := by
  have hW : Ext w (w.alloc (.cells (entCells r q x e) 25)) := (Ext.refl _).alloc _
  have hV := Var.new w (entCells r q x e) 25
  generalize hWg : w.alloc (.cells (entCells r q x e) 25) = W at *
  have hc := hV.cell
  unfold entCells at *
  go_enter Try.func13, Try.ntmps13
  have hkW := hk.ext hW
  have hoW := he.ext hW
  have hb : w.heap.size < W.heap.size := hV.lt
  have hbc : Clr (pcs p Lv Wv its) (pv w.heap.size) := hk.clr (From.new _ _ _ _ _ (Nat.le_refl _))
  have hrlt := Ow.lt he.row
  have hqlt := Ow.lt he.qual
  have hxlt := Ow.lt he.value
  have hsep : ∀ (v : Value), (∀ k, v.ownBlock = some k → k < w.heap.size) → Sep v (pv w.heap.size) := by
    intro v hv k hk hk'
    have := hv k hk
    simp [pv, Value.ownBlock] at hk'
    omega
  obtain ⟨A1, c1, rfl, _⟩ := he.row.rd.shape
  obtain ⟨A2, c2, rfl, _⟩ := he.qual.rd.shape
  obtain ⟨A3, c3, rfl, _⟩ := he.value.rd.shape
  go_wp2_with fail
  clear hWg
  refine (Keep_out W N p Lv Wv its _ e.row hkW hoW.row hf.1 hN.1 hr (by omega)).mono ?_
  rintro e0 w1 ⟨rfl, L1, W1, d1, K1⟩
  have hk1 := K1.st
  have hf1 := K1.fr
  have hq1 := K1.clr1 hq he.rq (fun k h => Nat.lt_trans (hqlt k h) hb)
  have hx1 := K1.clr1 hx he.rx (fun k h => Nat.lt_trans (hxlt k h) hb)
  have hb1 := K1.clr1 hbc (hsep _ hrlt) (fun k h => by simp [pv, Value.ownBlock] at h; omega)
  have hV1 := hV.fr hf1 (Tb.clr hbc)
  have hc1 := hV1.cell
  have hoq1 := hoW.qual.fr hf1 hq.off
  have hox1 := hoW.value.fr hf1 hx.off
  have hs1 := hf1.size
  clear hc
  go_wp2_with fail
  refine (Keep_out w1 N p L1 W1 _ _ e.qual hk1 hoq1 hf.2.1 hN.2.1 hq1 (by simp; omega)).mono ?_
  rintro e0 w2 ⟨rfl, L2, W2, d2, K2⟩
  have hk2 := K2.st
  have hf2 := K2.fr
  have hx2 := K2.clr1 hx1 he.qx (fun k h => by have := hxlt k h; omega)
  have hb2 := K2.clr1 hb1 (hsep _ hqlt) (fun k h => by simp [pv, Value.ownBlock] at h; omega)
  have hV2 := hV1.fr hf2 (Tb.clr hb1)
  have hc2 := hV2.cell
  have hox2 := hox1.fr hf2 hx1.off
  have hs2 := hf2.size
  clear hc1
  go_wp2_with fail
  refine (Keep_out w2 N p L2 W2 _ _ e.value hk2 hox2 hf.2.2 hN.2.2 hx2 (by simp; omega)).mono ?_
  rintro e0 w3 ⟨rfl, L3, W3, d3, K3⟩
  go_wp2
  go_end0
  exact ⟨rfl, L3, W3, d1, d2, d3, (K1.trans (K2.trans K3)).before hW⟩
end Go.Proofs.Ytckhefkedkipeaa

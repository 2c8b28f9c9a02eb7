/- Does each still hold its mark? What is told of an entry that may be. -/
import Derived.Test.YtckhefkedkipeabSettle2
namespace Go.Proofs.Ytckhefkedkipeab
open Go.RowKit

set_option maxHeartbeats 1000000 in
set_option maxRecDepth 100000 in
theorem Settled_ok (w : World) (N p i : Nat) (Lv Wv : Value) (its : List It) (hk : Lst w N p Lv Wv its i) (hm : ∀ k it, its[k]? = some it → it.l = List.replicate it.l.length (mark k)) (hn : its.length ≤ 1000) :
    Calls Try.prog 17 #[.pointer (some ⟨p, 0, none⟩)] w fun e w' => e = .returned (.bool true) ∧ Ext w w' := by
  obtain ⟨Al, cl, rfl, hcl⟩ := hk.L.shape
  obtain ⟨Aw, cw, rfl, hcw⟩ := hk.W.shape
  have HA := Lib.hid hk
  have HM := Lib.hid hm
  have hcv := hk.var.cell
  have hp := hk.var.lt
  clear hk hm
  go_enter Try.func17, Try.ntmps17
  go_wp2
  go_loopw [3] (fun x wr => Ext w wr ∧ ∃ k : Nat, k ≤ its.length ∧ x = .int .i64 k) (fun x _ => its.length - (intOf x).toNat)
  case atStart => exact ⟨Ext.refl _, 0, by omega, rfl⟩
  case round =>
    obtain ⟨he, k, hk, rfl⟩ := hrel
    have hc := fun o => (he.cells p o hp).trans (hcv o)
    by_cases hlt : k < its.length
    · obtain ⟨a, A1, c1, u, l, m, rfl, hI, hC, hO, hS⟩ := (HA.out.ext he).at2 rfl k hlt
      have hlk : l = List.replicate l.length (mark k) := HM.out k _ hI
      have HLK := Lib.hid hlk
      have HO := Lib.hid hO
      clear hI hlk hO
      go_wp2_with fail
      go_loopw [4] (fun x wq => Ext wr wq ∧ ∃ c : Nat, c ≤ l.length ∧ x = .int .i64 c) (fun x _ => l.length - (intOf x).toNat)
      case atStart => exact ⟨Ext.refl _, 0, by omega, rfl⟩
      case round =>
        obtain ⟨he6, c, hcc, rfl⟩ := hrel
        have hcq := fun o => (he6.cells p o (Nat.lt_of_lt_of_le hp he.size)).trans (hc o)
        have hC4 := he6.cell hC
        by_cases hcl2 : c < l.length
        · obtain ⟨av, rfl, hbv⟩ := (HO.out.ext he6).at_ c hcl2
          have e2 : gt l c = mark k := by
            conv => lhs; rw [HLK.out]
            exact gt_rep _ _ _ hcl2
          rw [e2] at hbv
          clear e2
          unfold mark at hbv
          clear hc hC
          go_wp2
          go_roundw
          case rel => exact ⟨he6, c + 1, by omega, by go_num⟩
          case measure => simp [intOf]; omega
        · have hcl3 : l.length ≤ c := by omega
          clear hc hC
          go_wp2
          go_roundw
          case rel => exact ⟨he.trans he6, k + 1, by omega, by go_num⟩
          case measure => simp [intOf]; omega
    · have hkl2 : its.length ≤ k := by omega
      go_wp2
      go_ret
      exact ⟨rfl, he⟩

def badE : Ent := { plainE with ts := 0 }
def worseE : Ent := { plainE with ts := 0, seq := -1 }
theorem plainE_fits : plainE.Fits := by refine ⟨?_, ?_, ?_, ?_, by decide, by decide, by decide⟩ <;> (unfold isI64; decide)
theorem badE_fits : badE.Fits := by refine ⟨?_, ?_, ?_, ?_, by decide, by decide, by decide⟩ <;> (unfold isI64; decide)
theorem worseE_fits : worseE.Fits := by refine ⟨?_, ?_, ?_, ?_, by decide, by decide, by decide⟩ <;> (unfold isI64; decide)
/-- What the walk of told takes from the calls, without their laws. -/
structure ToldFacts (K : List Int) (en : Ent) : Prop where
  key : ∀ r q x W, RdE W r q x plainE → Calls Try.prog 6 #[.agg #[r, .int .i64 1, q, .int .i64 5, .int .i64 32, .int .i64 1, x]] W (OutBN W (K, 0))
  rkey : ∀ r q x W, RdE W r q x plainE → Calls Try.prog 30 #[.agg #[r, .int .i64 1, q, .int .i64 5, .int .i64 32, .int .i64 1, x]] W (OutBN W (K, 0))
  parse : ∀ v W, RdB W v K → Calls Try.prog 11 #[v] W (OutEN W (en, 0))
  ts : en.ts = 5
  bad : ∀ r q x W, RdE W r q x plainE → Calls Try.prog 6 #[.agg #[r, .int .i64 1, q, .int .i64 0, .int .i64 32, .int .i64 1, x]] W (OutBN W ([], 23))
  worse : ∀ r q x W, RdE W r q x plainE → Calls Try.prog 20 #[.agg #[r, .int .i64 1, q, .int .i64 0, .int .i64 (-1), .int .i64 1, x]] W (OutN W 23)
  cmp : ∀ r q x r' q' x' W, RdE W r q x plainE → RdE W r' q' x' plainE → Calls Try.prog 31 #[.agg #[r, .int .i64 1, q, .int .i64 5, .int .i64 32, .int .i64 1, x], .agg #[r', .int .i64 1, q', .int .i64 0, .int .i64 32, .int .i64 1, x']] W (OutN W (-1))
  len : K.length = 26
theorem toldFacts : ∃ K en, ToldFacts K en := by
  have e1 : keyL plainE = ((keyL plainE).1, 0) := by rw [← k1]
  have e2 : parseKeyL (keyL plainE).1 = ((parseKeyL (keyL plainE).1).1, 0) := by rw [← k2]
  refine ⟨(keyL plainE).1, (parseKeyL (keyL plainE).1).1, ?_, ?_, ?_, k3, ?_, ?_, ?_, k7⟩
  · intro r q x W h
    rw [← e1]
    exact Key_ok r q x plainE W h plainE_fits
  · intro r q x W h
    rw [← e1]
    exact rKey_ok r q x plainE W h plainE_fits
  · intro v W h
    rw [← e2]
    exact ParseKey_ok v _ W h (by rw [k7]; omega)
  · intro r q x W h
    have hb : RdE W r q x badE := ⟨h.row, h.qual, h.value⟩
    have := Key_ok r q x badE W hb badE_fits
    have e : keyL badE = ([], 23) := k4
    rw [e] at this
    exact this
  · intro r q x W h
    have hb : RdE W r q x worseE := ⟨h.row, h.qual, h.value⟩
    have := Check_ok r q x worseE W hb worseE_fits
    have e : checkL worseE = 23 := k6
    rw [e] at this
    exact this
  · intro r q x r' q' x' W h h'
    have hb : RdE W r' q' x' badE := ⟨h'.row, h'.qual, h'.value⟩
    have := Compare_ok r q x r' q' x' plainE badE W h hb
    have e : compareL plainE badE = -1 := k5
    rw [e] at this
    exact this

theorem plain_shape {w : World} {r q x : Value} (h : RdE w r q x plainE) : ∃ A1 c1 A2 c2 A3 c3, r = .slice A1 1 c1 ∧ q = .slice A2 1 c2 ∧ x = .slice A3 1 c3 := by
  obtain ⟨A1, c1, e1, _⟩ := h.row.shape
  obtain ⟨A2, c2, e2, _⟩ := h.qual.shape
  obtain ⟨A3, c3, e3, _⟩ := h.value.shape
  exact ⟨A1, c1, A2, c2, A3, c3, e1, e2, e3⟩
theorem set3 {w : World} {b T : Nat} {a0 a1 a2 a3 a4 a5 a6 : Value} (h : Var w b T #[a0, a1, a2, a3, a4, a5, a6]) (v : Value) : Var (w.setCell ⟨b, 3, none⟩ v) b T #[a0, a1, a2, v, a4, a5, a6] := by
  have := h.set 3 v; simpa using this
theorem set4 {w : World} {b T : Nat} {a0 a1 a2 a3 a4 a5 a6 : Value} (h : Var w b T #[a0, a1, a2, a3, a4, a5, a6]) (v : Value) : Var (w.setCell ⟨b, 4, none⟩ v) b T #[a0, a1, a2, a3, v, a5, a6] := by
  have := h.set 4 v; simpa using this
set_option maxHeartbeats 2000000 in
set_option maxRecDepth 100000 in
theorem told_ok (w : World) : Calls Try.prog 18 #[] w fun e w' => e = .returned (.bool true) ∧ Ext w w' := by
  obtain ⟨K, en, F⟩ := toldFacts
  have HF := Lib.hid F
  have hts := F.ts
  clear F
  go_enter Try.func18, Try.ntmps18
  go_wp2_with fail
  refine (plain_ok w).mono ?_
  rintro e0 w1 ⟨r1, q1, x1, rfl, hr1, _, he1⟩
  simp only [entCells, plainE]
  go_wp2_with fail
  refine (HF.out.key _ _ _ w1 hr1).mono ?_
  rintro e0 w2 ⟨b, rfl, ho, _, he2⟩
  go_wp2_with fail
  refine (HF.out.parse b w2 ho.rd).mono ?_
  rintro e0 w3 ⟨r2, q2, x2, rfl, hoe, _, he3⟩
  obtain ⟨A1, c1, rfl, _⟩ := hoe.row.rd.shape
  obtain ⟨A2, c2, rfl, _⟩ := hoe.qual.rd.shape
  obtain ⟨A3, c3, rfl, _⟩ := hoe.value.rd.shape
  have HX := Lib.hid hoe
  clear hoe
  simp only [entCells]
  rw [hts]
  have hV3 := Var.new w3 zeroV 24
  have hE3 := (((Ext.refl w).trans he1).trans he2).trans he3 |>.alloc (.cells zeroV 24)
  have hw3 : w.heap.size ≤ w3.heap.size := (((Ext.refl w).trans he1).trans he2).trans he3 |>.size
  have hok := (ho.ext he3).alloc (.cells zeroV 24)
  unfold zeroV at hV3 hE3 hok
  obtain ⟨W3, hW3⟩ : ∃ W3, w3.alloc (.cells #[.slice none 0 0, .int .i64 0, .slice none 0 0, .int .i64 0, .int .i64 0, .int .i64 0, .slice none 0 0] 24) = W3 := ⟨_, rfl⟩
  rw [hW3] at hV3 hE3 hok
  have hc3 := hV3.cell
  have hz3 := hV3.frozen
  obtain ⟨x4, hx4, hV4, hg4⟩ := store7 hV3 rfl (.slice A1 en.row.length c1) (.int .i64 en.fam) (.slice A2 en.qual.length c2) (.int .i64 5) (.int .i64 en.seq) (.int .i64 en.kind) (.slice A3 en.value.length c3)
  have hE4 : Ext w x4 := hE3.put hg4 hw3
  have hb4 : OwB x4 b K := Ow.kept hok fun k hk => hg4.block k (Ow.lt hok k hk) (fun e => by have := Ow.lt ho k hk; have := he3.size; cases e; omega)
  have hv4 : w3.heap.size < x4.heap.size := hV4.lt
  have HB := Lib.hid hb4
  have HV4 := Lib.hid hV4
  clear hb4 hok ho HX
  go_wp2_with fail
  clear hc3 hz3 hx4 hW3 hV3 hg4 hE3 hV4
  refine (plain_ok x4).mono ?_
  rintro e0 w5 ⟨r5, q5, x5, rfl, hr5, _, he5⟩
  simp only [entCells, plainE]
  go_wp2_with fail
  refine (HF.out.rkey _ _ _ w5 hr5).mono ?_
  rintro e0 w6 ⟨b6, rfl, ho6, _, he6⟩
  go_wp2_with fail
  refine (plain_ok w6).mono ?_
  rintro e0 w7 ⟨r7, q7, x7, rfl, hr7, hf7, he7⟩
  simp only [entCells, plainE]
  obtain ⟨B1, d1, B2, d2, B3, d3, rfl, rfl, rfl⟩ := plain_shape hr7
  have hE7 := ((hE4.trans he5).trans he6).trans he7
  have hV8 := Var.new w7 zeroV 24
  have hE8 := (Ext.refl w7).alloc (.cells zeroV 24)
  unfold zeroV at hV8 hE8
  obtain ⟨W8, hW8⟩ : ∃ W8, w7.alloc (.cells #[.slice none 0 0, .int .i64 0, .slice none 0 0, .int .i64 0, .int .i64 0, .int .i64 0, .slice none 0 0] 24) = W8 := ⟨_, rfl⟩
  rw [hW8] at hV8 hE8
  have hc8 := hV8.cell
  have hz8 := hV8.frozen
  obtain ⟨y8, hy8, hV9, hg9⟩ := store7 hV8 rfl (.slice B1 1 d1) (.int .i64 1) (.slice B2 1 d2) (.int .i64 5) (.int .i64 32) (.int .i64 1) (.slice B3 1 d3)
  have hc9 := hV9.cell
  have hz9 := hV9.frozen
  have hg10 := grownBy_set y8 w7.heap.size 3 (.int .i64 0)
  have hV10 : Var (y8.setCell ⟨w7.heap.size, 3, none⟩ (.int .i64 0)) w7.heap.size 24 #[.slice B1 1 d1, .int .i64 1, .slice B2 1 d2, .int .i64 0, .int .i64 32, .int .i64 1, .slice B3 1 d3] := set3 hV9 (.int .i64 0)
  have hE10 := (hE8.put hg9 (Nat.le_refl _)).put hg10 (Nat.le_refl _)
  obtain ⟨y9, hy9⟩ : ∃ y9, y8.setCell ⟨w7.heap.size, 3, none⟩ (.int .i64 0) = y9 := ⟨_, rfl⟩
  rw [hy9] at hV10 hE10
  have hc10 := hV10.cell
  have hlt10 : w7.heap.size < y9.heap.size := hV10.lt
  go_wp2_with fail
  clear hc8 hz8 hy8 hV9 hc9 hz9 hg9 hg10 hy9 hW8 hV8 hE8
  refine (HF.out.bad _ _ _ y9 (hr7.ext hE10)).mono ?_
  rintro e0 w11 ⟨k, rfl, hok, _, he11⟩
  obtain ⟨Ak, ck, rfl, _⟩ := hok.rd.shape
  have hV11 := hV10.ext he11
  have hE11 := hE10.trans he11
  clear hc10
  have hV12 := Var.new w11 zeroV 24
  have hE12 := (Ext.refl w11).alloc (.cells zeroV 24)
  unfold zeroV at hV12 hE12
  obtain ⟨W12, hW12⟩ : ∃ W12, w11.alloc (.cells #[.slice none 0 0, .int .i64 0, .slice none 0 0, .int .i64 0, .int .i64 0, .int .i64 0, .slice none 0 0] 24) = W12 := ⟨_, rfl⟩
  rw [hW12] at hV12 hE12
  have hc11 := hV11.cell
  have hc12 := hV12.cell
  have hz12 := hV12.frozen
  have hc11b := (hV11.ext hE12).cell
  obtain ⟨y13, hy13, hV13, hg13⟩ := store7 hV12 rfl (.slice B1 1 d1) (.int .i64 1) (.slice B2 1 d2) (.int .i64 0) (.int .i64 32) (.int .i64 1) (.slice B3 1 d3)
  have hc13 := hV13.cell
  have hz13 := hV13.frozen
  have hg14 := grownBy_set y13 w11.heap.size 4 (.int .i64 (-1))
  have hV14 : Var (y13.setCell ⟨w11.heap.size, 4, none⟩ (.int .i64 (-1))) w11.heap.size 24 #[.slice B1 1 d1, .int .i64 1, .slice B2 1 d2, .int .i64 0, .int .i64 (-1), .int .i64 1, .slice B3 1 d3] := set4 hV13 (.int .i64 (-1))
  have hE14 := (hE12.put hg13 (Nat.le_refl _)).put hg14 (Nat.le_refl _)
  obtain ⟨y14, hy14⟩ : ∃ y14, y13.setCell ⟨w11.heap.size, 4, none⟩ (.int .i64 (-1)) = y14 := ⟨_, rfl⟩
  rw [hy14] at hV14 hE14
  have hc14 := hV14.cell
  go_wp2_with fail
  clear hc11 hc12 hz12 hc11b hy13 hV13 hc13 hz13 hg13 hg14 hy14 hW12 hV12 hE12 hc14
  refine (HF.out.worse _ _ _ y14 (hr7.ext (hE11.trans hE14))).mono ?_
  rintro e0 w15 ⟨rfl, he15⟩
  have h411 : Ext x4 w11 := ((he5.trans he6).trans he7).trans hE11
  have h415 : Ext x4 w15 := (h411.trans hE14).trans he15
  have h715 : Ext w7 w15 := (hE11.trans hE14).trans he15
  have h615 : Ext w6 w15 := he7.trans h715
  have hcx : w15.cell? ⟨w3.heap.size, 3, none⟩ = some (.int .i64 5) := h415.cell (by rw [HV4.out.cell]; rfl)
  have hcy : ∀ o, w15.cell? ⟨w7.heap.size, o, none⟩ = #[.slice B1 1 d1, .int .i64 1, .slice B2 1 d2, .int .i64 0, .int .i64 32, .int .i64 1, .slice B3 1 d3][o]? := ((hV11.ext hE14).ext he15).cell
  have hEw : Ext w w15 := hE4.trans h415
  have HR := Lib.hid (hr7.ext h715)
  have HB1 := Lib.hid (HB.out.ext h415).rd
  have HB2 := Lib.hid (ho6.ext h615).rd
  have hKl : K.length ≤ 140737488355328 := by rw [HF.out.len]; omega
  obtain ⟨Ab, cb, hbs, _⟩ := HB1.out.shape
  obtain ⟨Ac, cc, hb6, _⟩ := HB2.out.shape
  subst hbs hb6
  have keepS : ∀ w', Ext w15 w' → w'.cell? ⟨w3.heap.size, 3, none⟩ = some (.int .i64 5) ∧ w'.cell? ⟨w7.heap.size, 0, none⟩ = some (.slice B1 1 d1) ∧ w'.cell? ⟨w7.heap.size, 1, none⟩ = some (.int .i64 1) ∧ w'.cell? ⟨w7.heap.size, 2, none⟩ = some (.slice B2 1 d2) ∧
      w'.cell? ⟨w7.heap.size, 3, none⟩ = some (.int .i64 0) ∧ w'.cell? ⟨w7.heap.size, 4, none⟩ = some (.int .i64 32) ∧ w'.cell? ⟨w7.heap.size, 5, none⟩ = some (.int .i64 1) ∧ w'.cell? ⟨w7.heap.size, 6, none⟩ = some (.slice B3 1 d3) :=
    fun w' h => ⟨h.cell hcx, h.cell (by rw [hcy]; rfl), h.cell (by rw [hcy]; rfl), h.cell (by rw [hcy]; rfl), h.cell (by rw [hcy]; rfl), h.cell (by rw [hcy]; rfl), h.cell (by rw [hcy]; rfl), h.cell (by rw [hcy]; rfl)⟩
  have HK := Lib.hid keepS
  clear keepS hcx hcy hV10 hV11 hV14 hE10 hE11 hE14 hr7 hr1 hr5 ho6 hok
  go_wp2_with fail
  go_region_held3 (fun w' => w'.cell? ⟨w3.heap.size, 3, none⟩ = some (.int .i64 5) ∧ w'.cell? ⟨w7.heap.size, 0, none⟩ = some (.slice B1 1 d1) ∧ w'.cell? ⟨w7.heap.size, 1, none⟩ = some (.int .i64 1) ∧ w'.cell? ⟨w7.heap.size, 2, none⟩ = some (.slice B2 1 d2) ∧
      w'.cell? ⟨w7.heap.size, 3, none⟩ = some (.int .i64 0) ∧ w'.cell? ⟨w7.heap.size, 4, none⟩ = some (.int .i64 32) ∧ w'.cell? ⟨w7.heap.size, 5, none⟩ = some (.int .i64 1) ∧ w'.cell? ⟨w7.heap.size, 6, none⟩ = some (.slice B3 1 d3))
    (first | exact HK.out _ (Ext.refl _).drew | exact HK.out _ ((Ext.refl _).drew.trans he16) | exact HK.out _ (((Ext.refl _).drew.trans he16).trans he17) | exact HK.out _ ((((Ext.refl _).drew.trans he16).trans he17).trans he18))
    (first
      | (go_at_call 16; refine (same_ok _ _ K _ (HB1.out.ext (Ext.refl _).drew) (HB2.out.ext (Ext.refl _).drew) hKl).mono ?_; rintro e0 w16 ⟨rfl, he16⟩)
      | (go_at_call 29; refine (plain_ok _).mono ?_; rintro e0 w17 ⟨r17, q17, x17, rfl, hr17, _, he17⟩; simp only [entCells, plainE])
      | (go_at_call 31; refine (HF.out.cmp _ _ _ _ _ _ _ hr17 (HR.out.ext (((Ext.refl _).drew.trans he16).trans he17))).mono ?_; rintro e0 w18 ⟨rfl, he18⟩))
  go_wp2
  go_ret
  exact ⟨rfl, hEw.trans ((((Ext.refl _).drew.trans he16).trans he17).trans he18)⟩
end Go.Proofs.Ytckhefkedkipeab

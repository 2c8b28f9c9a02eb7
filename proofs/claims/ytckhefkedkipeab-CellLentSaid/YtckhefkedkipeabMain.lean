/- The walk of CellLent. -/
import Derived.Test.YtckhefkedkipeabMain1
import Derived.Deep.Cut
import Derived.Deep.CutRange
import Derived.Deep.LoopGhost
namespace Go.Proofs.Ytckhefkedkipeab
open Go.RowKit

set_option maxHeartbeats 4000000 in
set_option maxRecDepth 100000 in
theorem CellLent_ok (r1 q1 x1 r2 q2 x2 any : Value) (a b : Ent) (l : List Int) (i0 : Int) (w : World) (ha : RdE w r1 q1 x1 a) (hb : RdE w r2 q2 x2 b) (hl : RdB w any l) (hfa : a.Fits) (hfb : b.Fits) (hll : l.length ≤ 140737488351232) :
    Calls Try.prog 3 #[.agg (entCells r1 q1 x1 a), .agg (entCells r2 q2 x2 b), any, .int .i64 i0] w fun e w' => e = .returned (.bool true) ∧ Ext w w' := by
  have hca : ∀ W', RdE W' r1 q1 x1 a → Calls Try.prog 5 #[.agg (entCells r1 q1 x1 a)] W' (OutE W' a.cut) := fun W' h => entry_ok r1 q1 x1 a W' h hfa
  have hcb : ∀ W', RdE W' r2 q2 x2 b → Calls Try.prog 5 #[.agg (entCells r2 q2 x2 b)] W' (OutE W' b.cut) := fun W' h => entry_ok r2 q2 x2 b W' h hfb
  have hfac := hfa.cut
  have hfbc := hfb.cut
  obtain ⟨AL, hAL⟩ : ∃ AL, AL = allL a.cut b.cut l i0 := ⟨_, rfl⟩
  generalize a.cut = ac at *
  generalize b.cut = bc at *
  unfold entCells at hca hcb
  have HCA := Lib.hid hca
  have HCB := Lib.hid hcb
  clear hca hcb
  have hV1 := Var.new w (entCells r1 q1 x1 a) 24
  have hE1 := (Ext.refl w).alloc (.cells (entCells r1 q1 x1 a) 24)
  unfold entCells at hV1 hE1 ⊢
  obtain ⟨W1, hW1⟩ : ∃ W1, w.alloc (.cells #[r1, .int .i64 a.fam, q1, .int .i64 a.ts, .int .i64 a.seq, .int .i64 a.kind, x1] 24) = W1 := ⟨_, rfl⟩
  rw [hW1] at hV1 hE1
  have hV2 := Var.new W1 (entCells r2 q2 x2 b) 24
  have hE2 := (Ext.refl W1).alloc (.cells (entCells r2 q2 x2 b) 24)
  unfold entCells at hV2 hE2
  obtain ⟨W, hW⟩ : ∃ W, W1.alloc (.cells #[r2, .int .i64 b.fam, q2, .int .i64 b.ts, .int .i64 b.seq, .int .i64 b.kind, x2] 24) = W := ⟨_, rfl⟩
  rw [hW] at hV2 hE2
  have hVa := hV1.ext hE2
  have hwW := hE1.trans hE2
  have HA := Lib.hid (ha.ext hwW)
  have HB := Lib.hid (hb.ext hwW)
  have HL := Lib.hid (hl.ext hwW)
  have hlt1 : w.heap.size < W.heap.size := hVa.lt
  have hlt2 : W1.heap.size < W.heap.size := hV2.lt
  clear ha hb hl hV1 hE1 hE2
  have hK0 := Ksm.new (Var.new W #[.slice none 0 0, .slice none 0 0] 28)
  have hE3 := (Ext.refl W).alloc (.cells #[.slice none 0 0, .slice none 0 0] 28)
  have HK0 := Lib.hid hK0
  have HAL := Lib.hid hAL
  clear hAL hK0
  go_enter Try.func3, Try.ntmps3
  go_wp2_with fail
  clear hW1 hW
  go_loopg [9, 10, 11] 3 (fun g k was x wr => ∃ i : Nat, i + g = 3 ∧ x = .int .i64 i ∧ Head W AL k was i wr)
  case atStart => exact ⟨0, rfl, rfl, hE3, _, _, _, _, _, rfl, Nat.le_refl _, .inl ⟨by omega, rfl, HK0.out⟩⟩
  case round =>
    obtain ⟨i, hig, rfl, hE, N, p, Lv, Wv, its, rfl, hWN, hcase⟩ := hrel
    have hAl : AL.length = 26 := by rw [HAL.out]; exact allL_len _ _ _ _
    clear HK0 hE3
    have hKst : Kst wr N p Lv Wv its := by
      rcases hcase with ⟨_, _, hK⟩ | ⟨_, hK, _⟩
      · exact hK.st
      · exact hK.st
    obtain ⟨Al, cl, rfl, hcl⟩ := hKst.L.shape
    have hcv := hKst.var.cell
    have HC := Lib.hid hcase
    clear hcase hKst
    by_cases hi3 : i < 3
    · go_upto_if 47 with (fail)
      go_cut [9, 10, 12] from 37 to 180 (fun k was n wx => Mid W AL i k was n wx)
      case first =>
        rcases HC.out with ⟨hi2, hwas, hK⟩ | ⟨h3, _⟩
        · by_cases h2 : i = 2
          · subst h2
            subst hwas
            have hlen := hK.len
            rw [rep_len AL hAl] at hlen
            have hEX := (Ext.refl wr).alloc (.cells #[.slice none 0 0, .slice none 0 0] 28)
            have hVX := Var.new wr #[.slice none 0 0, .slice none 0 0] 28
            obtain ⟨X, hX⟩ : ∃ X, wr.alloc (.cells #[.slice none 0 0, .slice none 0 0] 28) = X := ⟨_, rfl⟩
            rw [hX] at hEX hVX
            have HS := Lib.hid (Settle_ok X N p _ _ its (hK.st.ext hEX) hK.same (by omega))
            go_wp2_with (go_at_call 4; refine HS.out.mono ?_; rintro e0 w8 ⟨rfl, hf8, its', hL8, hM8⟩)
            go_meet
            case rel =>
              have hltw := hK.st.lt
              have hVs : ∀ b, Vs its b → b < wr.heap.size ∧ N ≤ b := fun b ⟨it, hit, hb⟩ => by
                have hm : it.v ∈ pcs p (.slice Al its.length cl) Wv its := by simp only [pcs, vals, List.mem_cons, List.mem_flatMap]; exact .inr (.inr (.inr ⟨it, hit, by simp⟩))
                exact ⟨hltw it.v hm b hb, hK.st.frm it.v hm b hb⟩
              have hE8 : Ext W w8 := Fr.toExt (hE.trans hEX) hf8 fun b hb => Nat.le_trans hWN (hVs b hb).2
              refine ⟨hE8, wr.heap.size, wr.heap.size, _, _, [], [], rfl, hE.size, Ksm.new (hVX.fr hf8 fun hb => by have := (hVs _ hb).1; omega), rfl, .inr ⟨rfl, rfl, N, p, _, _, its', rfl, ⟨hL8, hM8.ms.trans hK.ms, hM8.full⟩, ?_⟩⟩
              intro z hz b hb
              refine hltw z ?_ b hb
              unfold pcs at hz ⊢
              rw [hM8.vals] at hz
              exact hz
          · have h2b : i ≤ 1 := by omega
            subst hwas
            go_wp2_with fail
            go_meet
            case rel => exact ⟨hE, N, p, _, _, its, rep AL i, rfl, hWN, hK, rfl, .inl ⟨h2b, rfl, rfl⟩⟩
        · omega
      case rest =>
        clear HC hcv
        obtain ⟨hE9, N, p, Lv, Wv, its, P, rfl, hWN, hK, rfl, hcase⟩ := hcut
        have HCS := Lib.hid hcase
        have HK := Lib.hid hK
        clear hcase hK
        have hc4 := (hVa.ext hE9).cell
        have hc5 := (hV2.ext hE9).cell
        have keepS : ∀ w', Ext wc w' → w'.cell? ⟨w.heap.size, 0, none⟩ = some r1 ∧ w'.cell? ⟨w.heap.size, 1, none⟩ = some (.int .i64 a.fam) ∧ w'.cell? ⟨w.heap.size, 2, none⟩ = some q1 ∧ w'.cell? ⟨w.heap.size, 3, none⟩ = some (.int .i64 a.ts) ∧
            w'.cell? ⟨w.heap.size, 4, none⟩ = some (.int .i64 a.seq) ∧ w'.cell? ⟨w.heap.size, 5, none⟩ = some (.int .i64 a.kind) ∧ w'.cell? ⟨w.heap.size, 6, none⟩ = some x1 ∧
            w'.cell? ⟨W1.heap.size, 0, none⟩ = some r2 ∧ w'.cell? ⟨W1.heap.size, 1, none⟩ = some (.int .i64 b.fam) ∧ w'.cell? ⟨W1.heap.size, 2, none⟩ = some q2 ∧ w'.cell? ⟨W1.heap.size, 3, none⟩ = some (.int .i64 b.ts) ∧
            w'.cell? ⟨W1.heap.size, 4, none⟩ = some (.int .i64 b.seq) ∧ w'.cell? ⟨W1.heap.size, 5, none⟩ = some (.int .i64 b.kind) ∧ w'.cell? ⟨W1.heap.size, 6, none⟩ = some x2 :=
          fun w' h => ⟨h.cell (by rw [hc4]; rfl), h.cell (by rw [hc4]; rfl), h.cell (by rw [hc4]; rfl), h.cell (by rw [hc4]; rfl), h.cell (by rw [hc4]; rfl), h.cell (by rw [hc4]; rfl), h.cell (by rw [hc4]; rfl),
            h.cell (by rw [hc5]; rfl), h.cell (by rw [hc5]; rfl), h.cell (by rw [hc5]; rfl), h.cell (by rw [hc5]; rfl), h.cell (by rw [hc5]; rfl), h.cell (by rw [hc5]; rfl), h.cell (by rw [hc5]; rfl)⟩
        have HS := Lib.hid keepS
        clear keepS hc4 hc5
        go_wp2_with fail
        go_region_held3 (fun w' => w'.cell? ⟨w.heap.size, 0, none⟩ = some r1 ∧ w'.cell? ⟨w.heap.size, 1, none⟩ = some (.int .i64 a.fam) ∧ w'.cell? ⟨w.heap.size, 2, none⟩ = some q1 ∧ w'.cell? ⟨w.heap.size, 3, none⟩ = some (.int .i64 a.ts) ∧
            w'.cell? ⟨w.heap.size, 4, none⟩ = some (.int .i64 a.seq) ∧ w'.cell? ⟨w.heap.size, 5, none⟩ = some (.int .i64 a.kind) ∧ w'.cell? ⟨w.heap.size, 6, none⟩ = some x1 ∧
            w'.cell? ⟨W1.heap.size, 0, none⟩ = some r2 ∧ w'.cell? ⟨W1.heap.size, 1, none⟩ = some (.int .i64 b.fam) ∧ w'.cell? ⟨W1.heap.size, 2, none⟩ = some q2 ∧ w'.cell? ⟨W1.heap.size, 3, none⟩ = some (.int .i64 b.ts) ∧
            w'.cell? ⟨W1.heap.size, 4, none⟩ = some (.int .i64 b.seq) ∧ w'.cell? ⟨W1.heap.size, 5, none⟩ = some (.int .i64 b.kind) ∧ w'.cell? ⟨W1.heap.size, 6, none⟩ = some x2)
          (first | exact HS.out _ (Ext.refl _).drew | exact HS.out _ ((Ext.refl _).drew.trans he10) | exact HS.out _ (((Ext.refl _).drew.trans he10).trans he11) | exact HS.out _ ((((Ext.refl _).drew.trans he10).trans he11).alloc _))
          (first
            | (go_at_call 5; (with_reducible refine (HCA.out _ (HA.out.ext (hE9.trans (Ext.refl _).drew))).mono ?_); rintro e0 w10 ⟨ra, qa, xa, rfl, hoa, hfa1, he10⟩; obtain ⟨Aa1, ca1, rfl, _⟩ := hoa.row.rd.shape; obtain ⟨Aa2, ca2, rfl, _⟩ := hoa.qual.rd.shape; obtain ⟨Aa3, ca3, rfl, _⟩ := hoa.value.rd.shape; simp only [entCells])
            | (go_at_call 5; (with_reducible refine (HCB.out _ (HB.out.ext ((hE9.trans (Ext.refl _).drew).trans he10))).mono ?_); rintro e0 w11 ⟨rb, qb, xb, rfl, hob, hfb1, he11⟩; obtain ⟨Ab1, cb1, rfl, _⟩ := hob.row.rd.shape; obtain ⟨Ab2, cb2, rfl, _⟩ := hob.qual.rd.shape; obtain ⟨Ab3, cb3, rfl, _⟩ := hob.value.rd.shape; simp only [entCells]))
        have hE11 : Ext wc w11 := ((Ext.refl wc).drew.trans he10).trans he11
        have hVl := Var.new w11 #[.slice Aa1 ac.row.length ca1, .int .i64 ac.fam, .slice Aa2 ac.qual.length ca2, .int .i64 ac.ts, .int .i64 ac.seq, .int .i64 ac.kind, .slice Aa3 ac.value.length ca3, .slice Ab1 bc.row.length cb1, .int .i64 bc.fam, .slice Ab2 bc.qual.length cb2, .int .i64 bc.ts, .int .i64 bc.seq, .int .i64 bc.kind, .slice Ab3 bc.value.length cb3] 24
        have hEl := (Ext.refl w11).alloc (.cells #[.slice Aa1 ac.row.length ca1, .int .i64 ac.fam, .slice Aa2 ac.qual.length ca2, .int .i64 ac.ts, .int .i64 ac.seq, .int .i64 ac.kind, .slice Aa3 ac.value.length ca3, .slice Ab1 bc.row.length cb1, .int .i64 bc.fam, .slice Ab2 bc.qual.length cb2, .int .i64 bc.ts, .int .i64 bc.seq, .int .i64 bc.kind, .slice Ab3 bc.value.length cb3] 24)
        generalize hWl : w11.alloc (.cells #[.slice Aa1 ac.row.length ca1, .int .i64 ac.fam, .slice Aa2 ac.qual.length ca2, .int .i64 ac.ts, .int .i64 ac.seq, .int .i64 ac.kind, .slice Aa3 ac.value.length ca3, .slice Ab1 bc.row.length cb1, .int .i64 bc.fam, .slice Ab2 bc.qual.length cb2, .int .i64 bc.ts, .int .i64 bc.seq, .int .i64 bc.kind, .slice Ab3 bc.value.length cb3] 24) = Wl at *
        have hEcl : Ext wc Wl := hE11.trans hEl
        have hKl : Kst Wl N p Lv Wv its := HK.out.st.ext hEcl
        have hOa : OwE Wl (.slice Aa1 ac.row.length ca1) (.slice Aa2 ac.qual.length ca2) (.slice Aa3 ac.value.length ca3) ac := (hoa.ext he11).ext hEl
        have hOb : OwE Wl (.slice Ab1 bc.row.length cb1) (.slice Ab2 bc.qual.length cb2) (.slice Ab3 bc.value.length cb3) bc := hob.ext hEl
        have hsz10 : wc.heap.size ≤ w10.heap.size := he10.size
        have hca : ∀ y, From wc.heap.size y → Clr (pcs p Lv Wv its) y := fun y hy => HK.out.st.clr hy
        have hclra := (⟨hca _ hfa1.1, hca _ hfa1.2.1, hca _ hfa1.2.2⟩ : Clr (pcs p Lv Wv its) (.slice Aa1 ac.row.length ca1) ∧ Clr (pcs p Lv Wv its) (.slice Aa2 ac.qual.length ca2) ∧ Clr (pcs p Lv Wv its) (.slice Aa3 ac.value.length ca3))
        have hclrb := (⟨hca _ (hfb1.1.mono hsz10), hca _ (hfb1.2.1.mono hsz10), hca _ (hfb1.2.2.mono hsz10)⟩ : Clr (pcs p Lv Wv its) (.slice Ab1 bc.row.length cb1) ∧ Clr (pcs p Lv Wv its) (.slice Ab2 bc.qual.length cb2) ∧ Clr (pcs p Lv Wv its) (.slice Ab3 bc.value.length cb3))
        have hclrl : Clr (pcs p Lv Wv its) (pv w11.heap.size) := hca _ (From.new _ _ _ _ _ hE11.size)
        have hn := HK.out.len
        have hPl : P.length ≤ 26 := by
          rcases HCS.out with ⟨h1, _, rfl⟩ | ⟨_, rfl, _⟩
          · rw [rep_len AL hAl]; omega
          · simp
        have hNl : N ≤ Wl.heap.size := by
          have h1 := hKl.frm (pv p) (by simp [pcs]) p (by simp [pv, Value.ownBlock])
          have h2 := hKl.var.lt
          omega
        have HKl := Lib.hid hKl
        have HOa := Lib.hid hOa
        have HOb := Lib.hid hOb
        have HCa := Lib.hid hclra
        have HCb := Lib.hid hclrb
        have HCl := Lib.hid hclrl
        have HVl := Lib.hid hVl
        have hll11 : w11.heap.size < Wl.heap.size := hVl.lt
        clear hKl hOa hOb hclra hclrb hclrl hVl hoa hob hfa1 hfb1 hca
        go_wp2_with fail
        clear hWl
        have HN := Lib.hid hn
        clear hn
        go_loopg [14] 2 (fun g x wq => ∃ c : Nat, c + g = 2 ∧ x = .int .i64 c ∧ ((c = 0 ∧ Rnd Wl N p Lv Wv its [] wq) ∨ (c = 1 ∧ Rnd Wl N p Lv Wv its (rndL ac) wq) ∨ (c = 2 ∧ Rnd Wl N p Lv Wv its (rndL ac ++ rndL bc) wq)))
        case atStart => exact ⟨0, rfl, rfl, .inl ⟨rfl, Lv, Wv, [], KO.none HKl.out (Ext.refl _), rfl, by simp, by simp⟩⟩
        case round =>
          obtain ⟨c, hcg, rfl, hcs⟩ := hrel
          rcases hcs with ⟨rfl, hR⟩ | ⟨rfl, hR⟩ | ⟨rfl, hR⟩
          · obtain ⟨L0, V0, new, K0, hms, hsm, hfr⟩ := hR
            have hst0 := K0.st
            have hRd : RdE wr (.slice Aa1 ac.row.length ca1) (.slice Aa2 ac.qual.length ca2) (.slice Aa3 ac.value.length ca3) ac :=
              ⟨(HOa.out.row.rd).fr K0.fr HCa.out.1.off, (HOa.out.qual.rd).fr K0.fr HCa.out.2.1.off, (HOa.out.value.rd).fr K0.fr HCa.out.2.2.off⟩
            have hVr := HVl.out.fr K0.fr (Tb.clr HCl.out)
            have hcr := hVr.cell
            have hNr : N ≤ wr.heap.size := Nat.le_trans hNl K0.fr.size
            have hnl : (its ++ new).length ≤ 60 := by
              have h1 : new.length = (([] : List (List Int))).length := by rw [← hms]; simp
              have h3 := HN.out
              have h2 : (([] : List (List Int))).length ≤ 20 := by first | rfl | (simp only [List.length_nil]; omega)
              rw [List.length_append]; omega
            have HKey := Lib.hid (fun W' (h : Ext wr W') => Key_ok _ _ _ ac W' (hRd.ext h) hfac)
            have HPack := Lib.hid (fun W' (h : Ext wr W') => Pack_ok _ _ _ ac W' (hRd.ext h) hfac)
            have HStart := Lib.hid (fun W' (h : Ext wr W') => Start_ok _ ac.row W' (hRd.row.ext h))
            have HBehind := Lib.hid (fun W' (h : Ext wr W') => Behind_ok _ ac.row W' (hRd.row.ext h))
            unfold entCells at HKey HPack
            have q1 := key_small ac
            have q2 := pack_small ac
            have q3 := start_small ac.row
            have q4 := behind_small ac.row
            have q5 := parseKey_small (keyL ac).1
            have q6 := unpack_small (packL ac).1 0
            unfold SmallE at q5 q6
            unfold Small at q1 q2 q3 q4 q5 q6
            have HK0 := Lib.hid K0
            have HST := Lib.hid hst0
            clear hRd K0 hst0
            clear HCA HCB HA HB HL HS hVa hV2 hlt1 hlt2 he10 he11 hE11 hEl hsz10 hll11 HCS HK
            go_wp2_with fail
            refine (HKey.out wr (Ext.refl _)).mono ?_
            rintro e0 w1 ⟨kx, rfl, ox1, fx1, e1⟩
            have hc1 := (hVr.ext e1).cell
            clear hcr
            go_wp2_with fail
            refine (HPack.out w1 e1).mono ?_
            rintro e0 w2 ⟨ky, rfl, oy2, fy2, e2'⟩
            have e2 := e1.trans e2'
            have hc2 := (hVr.ext e2).cell
            clear hc1
            go_wp2_with fail
            refine (HStart.out w2 e2).mono ?_
            rintro e0 w3 ⟨ks, rfl, os3, fs3, e3'⟩
            have e3 := e2.trans e3'
            have hc3 := (hVr.ext e3).cell
            clear hc2
            go_wp2_with fail
            refine (HBehind.out w3 e3).mono ?_
            rintro e0 w4 ⟨kz, rfl, oz4, fz4, e4'⟩
            have e4 := e3.trans e4'
            clear hc3 HKey HPack HStart HBehind
            go_wp2_with fail
            have ox4 := ((ox1.ext e2').ext e3').ext e4'
            have oy3 := oy2.ext e3'
            have oy4 := oy3.ext e4'
            have os4 := os3.ext e4'
            have fyr : From wr.heap.size ky := fy2.mono e1.size
            have fsr : From wr.heap.size ks := fs3.mono e2.size
            have fzr : From wr.heap.size kz := fz4.mono e3.size
            have clr0 : ∀ y, From wr.heap.size y → Clr (pcs p L0 V0 (its ++ new)) y := fun y hy => HST.out.clr hy
            refine (Keep_out w4 N p L0 V0 _ kx _ (HST.out.ext e4) ox4 (by omega) (fx1.mono hNr) (clr0 _ fx1) (by omega)).mono ?_
            rintro e0 w5 ⟨rfl, L1, V1, c1, K1⟩
            have cy1 := K1.clr1 (clr0 _ fyr) (Ow.sep ox1 fy2) (Ow.lt oy4)
            have cs1 := K1.clr1 (clr0 _ fsr) (Ow.sep (ox1.ext e2') fs3) (Ow.lt os4)
            have cz1 := K1.clr1 (clr0 _ fzr) (Ow.sep ((ox1.ext e2').ext e3') fz4) (Ow.lt oz4)
            have oy5 := oy4.fr K1.fr (clr0 _ fyr).off
            have os5 := os4.fr K1.fr (clr0 _ fsr).off
            have oz5 := oz4.fr K1.fr (clr0 _ fzr).off
            go_wp2_with fail
            refine (Keep_out w5 N p L1 V1 _ ky _ K1.st oy5 (by omega) (fyr.mono hNr) cy1 (by simp only [List.length_append, List.length_cons, List.length_nil] at *; omega)).mono ?_
            rintro e0 w6 ⟨rfl, L2, V2, c2, K2⟩
            have cs2 := K2.clr1 cs1 (Ow.sep oy2 fs3) (Ow.lt os5)
            have cz2 := K2.clr1 cz1 (Ow.sep oy3 fz4) (Ow.lt oz5)
            have os6 := os5.fr K2.fr cs1.off
            have oz6 := oz5.fr K2.fr cz1.off
            go_wp2_with fail
            refine (Keep_out w6 N p L2 V2 _ ks _ K2.st os6 (by omega) (fsr.mono hNr) cs2 (by simp only [List.length_append, List.length_cons, List.length_nil] at *; omega)).mono ?_
            rintro e0 w7 ⟨rfl, L3, V3, c3, K3⟩
            have cz3 := K3.clr1 cz2 (Ow.sep os3 fz4) (Ow.lt oz6)
            have oz7 := oz6.fr K3.fr cz2.off
            go_wp2_with fail
            refine (Keep_out w7 N p L3 V3 _ kz _ K3.st oz7 (by omega) (fzr.mono hNr) cz3 (by simp only [List.length_append, List.length_cons, List.length_nil] at *; omega)).mono ?_
            rintro e0 w8 ⟨rfl, L4, V4, c4, K4⟩
            have rx8 : RdB w8 kx (keyL ac).1 := (K4.st.own ⟨kx, c1, (keyL ac).1, (keyL ac).1⟩ (by simp)).1.rd
            have ry8 : RdB w8 ky (packL ac).1 := (K4.st.own ⟨ky, c2, (packL ac).1, (packL ac).1⟩ (by simp)).1.rd
            have KK1 := Lib.hid (KO.before e4 K1)
            have KK2 := Lib.hid K2
            have KK3 := Lib.hid K3
            have KK4 := Lib.hid K4
            have hNl8 : N ≤ w8.heap.size := Nat.le_trans hNr (Nat.le_trans e4.size (Nat.le_trans K1.fr.size (Nat.le_trans K2.fr.size (Nat.le_trans K3.fr.size K4.fr.size))))
            have hWl8 : Wl.heap.size ≤ w8.heap.size := Nat.le_trans HK0.out.fr.size (Nat.le_trans e4.size (Nat.le_trans K1.fr.size (Nat.le_trans K2.fr.size (Nat.le_trans K3.fr.size K4.fr.size))))
            have hWlr : Wl.heap.size ≤ wr.heap.size := HK0.out.fr.size
            clear cy1 cs1 cz1 cs2 cz2 cz3 ox4 oy4 os4 oz5 oz6 oz7 oy5 os5 os6 clr0 K1 K2 K3 K4
            go_wp2_with fail
            refine (copied_ok kx _ w8 rx8 (by omega)).mono ?_
            rintro e0 w9 ⟨xc, rfl, oc9, fc9, e9⟩
            go_wp2_with fail
            refine (ParseKey_ok xc _ w9 oc9.rd (by omega)).mono ?_
            rintro e0 w10' ⟨ur, uq, ux, rfl, ou, fu, e10⟩
            obtain ⟨U, hU⟩ : ∃ U, U = (parseKeyL (keyL ac).1).1 := ⟨_, rfl⟩
            rw [← hU] at ou q5 ⊢
            have HUe := Lib.hid hU
            clear hU
            obtain ⟨B1, b1, rfl, _⟩ := ou.row.rd.shape
            obtain ⟨B2, b2, rfl, _⟩ := ou.qual.rd.shape
            obtain ⟨B3, b3, rfl, _⟩ := ou.value.rd.shape
            simp only [entCells]
            have hVu := Var.new w10' #[.slice none 0 0, .int .i64 0, .slice none 0 0, .int .i64 0, .int .i64 0, .int .i64 0, .slice none 0 0] 24
            have hEu := (Ext.refl w10').alloc (.cells #[.slice none 0 0, .int .i64 0, .slice none 0 0, .int .i64 0, .int .i64 0, .int .i64 0, .slice none 0 0] 24)
            obtain ⟨W11, hW11⟩ : ∃ W11, w10'.alloc (.cells #[.slice none 0 0, .int .i64 0, .slice none 0 0, .int .i64 0, .int .i64 0, .int .i64 0, .slice none 0 0] 24) = W11 := ⟨_, rfl⟩
            rw [hW11] at hVu hEu
            have hcu := hVu.cell
            have hzu := hVu.frozen
            obtain ⟨y11, hy11, hV11, hg11⟩ := store7 hVu rfl (.slice B1 U.row.length b1) (.int .i64 U.fam) (.slice B2 U.qual.length b2) (.int .i64 U.ts) (.int .i64 U.seq) (.int .i64 U.kind) (.slice B3 U.value.length b3)
            have e11 : Ext w10' y11 := hEu.put hg11 (Nat.le_refl _)
            have HU := Lib.hid ou
            have HV11 := Lib.hid hV11
            clear ou hV11
            go_wp2_with fail
            clear hcu hzu hy11 hW11 hg11 hVu hEu
            have e811 := (e9.trans e10).trans e11
            refine (copied_ok ky _ y11 (ry8.ext e811) (by omega)).mono ?_
            rintro e0 w12 ⟨yc, rfl, oc12, fc12, e12⟩
            go_wp2_with fail
            refine (Unpack_ok yc _ 0 w12 oc12.rd (by omega)).mono ?_
            rintro e0 w13 ⟨vr, vq, vx, rfl, ov, fv, e13⟩
            obtain ⟨V, hV⟩ : ∃ V, V = (unpackL (packL ac).1 0).1 := ⟨_, rfl⟩
            rw [← hV] at ov q6 ⊢
            have HVe := Lib.hid hV
            clear hV
            obtain ⟨D1, t1, rfl, _⟩ := ov.row.rd.shape
            obtain ⟨D2, t2, rfl, _⟩ := ov.qual.rd.shape
            obtain ⟨D3, t3, rfl, _⟩ := ov.value.rd.shape
            simp only [entCells]
            have hVv := Var.new w13 #[.slice none 0 0, .int .i64 0, .slice none 0 0, .int .i64 0, .int .i64 0, .int .i64 0, .slice none 0 0] 24
            have hEv := (Ext.refl w13).alloc (.cells #[.slice none 0 0, .int .i64 0, .slice none 0 0, .int .i64 0, .int .i64 0, .int .i64 0, .slice none 0 0] 24)
            obtain ⟨W14, hW14⟩ : ∃ W14, w13.alloc (.cells #[.slice none 0 0, .int .i64 0, .slice none 0 0, .int .i64 0, .int .i64 0, .int .i64 0, .slice none 0 0] 24) = W14 := ⟨_, rfl⟩
            rw [hW14] at hVv hEv
            have hcv4 := hVv.cell
            have hzv4 := hVv.frozen
            obtain ⟨y14, hy14, hV14, hg14⟩ := store7 hVv rfl (.slice D1 V.row.length t1) (.int .i64 V.fam) (.slice D2 V.qual.length t2) (.int .i64 V.ts) (.int .i64 V.seq) (.int .i64 V.kind) (.slice D3 V.value.length t3)
            have e14 : Ext w13 y14 := hEv.put hg14 (Nat.le_refl _)
            have e1114 := (e12.trans e13).trans e14
            have hcu14 := (HV11.out.ext e1114).cell
            have e814 := e811.trans e1114
            have HVo := Lib.hid ov
            have HV14 := Lib.hid hV14
            clear ov hV14
            go_wp2_with fail
            clear hcv4 hzv4 hy14 hW14 hg14 hVv hEv hcu14
            have h89 := e9.size
            have h813 : w8.heap.size ≤ w13.heap.size := Nat.le_trans e811.size (e12.trans e13).size
            have h812 : w8.heap.size ≤ w12.heap.size := Nat.le_trans e811.size e12.size
            have hst14 := KK4.out.st.ext e814
            have clr8 : ∀ y, From w8.heap.size y → Clr (pcs p L4 V4 _) y := fun y hy => KK4.out.st.clr hy
            have ou14 := HU.out.ext (e11.trans e1114)
            have ov14 := HVo.out.ext e14
            have fu8 := fu.mono h89
            have fv8 := fv.mono h812
            have ou12 := HU.out.ext (e11.trans e12)
            refine (KEntry_ok y14 N p L4 V4 _ _ _ _ U hst14 ou14 (by omega) (fu8.mono hNl8) (clr8 _ fu8.1) (clr8 _ fu8.2.1) (clr8 _ fu8.2.2) (by simp only [List.length_append, List.length_cons, List.length_nil] at *; omega)).mono ?_
            rintro e0 w15 ⟨rfl, L5, V5, d1, d2, d3, K5⟩
            have hsep : ∀ y, From w12.heap.size y → ∀ it ∈ ([⟨.slice B1 U.row.length b1, d1, U.row, U.row⟩, ⟨.slice B2 U.qual.length b2, d2, U.qual, U.qual⟩, ⟨.slice B3 U.value.length b3, d3, U.value, U.value⟩] : List It), Sep it.v y := by
              intro y hy it hit
              simp only [List.mem_cons, List.not_mem_nil, or_false] at hit
              rcases hit with rfl | rfl | rfl
              · exact Ow.sep ou12.row hy
              · exact Ow.sep ou12.qual hy
              · exact Ow.sep ou12.value hy
            have cv1 := K5.clr _ (clr8 _ fv8.1) (hsep _ fv.1) (Ow.lt ov14.row)
            have cv2 := K5.clr _ (clr8 _ fv8.2.1) (hsep _ fv.2.1) (Ow.lt ov14.qual)
            have cv3 := K5.clr _ (clr8 _ fv8.2.2) (hsep _ fv.2.2) (Ow.lt ov14.value)
            have ov15 : OwE w15 (.slice D1 V.row.length t1) (.slice D2 V.qual.length t2) (.slice D3 V.value.length t3) V :=
              ⟨ov14.row.fr K5.fr (clr8 _ fv8.1).off, ov14.qual.fr K5.fr (clr8 _ fv8.2.1).off, ov14.value.fr K5.fr (clr8 _ fv8.2.2).off, ov14.rq, ov14.rx, ov14.qx⟩
            have hcv15 := (HV14.out.fr K5.fr (Tb.clr (clr8 _ (From.new _ _ _ _ _ h813)))).cell
            have HK5 := Lib.hid (KO.before e814 K5)
            have hst15 := K5.st
            clear K5 hsep clr8 ou14 ov14 ou12
            go_wp2_with fail
            refine (KEntry_ok w15 N p L5 V5 _ _ _ _ V hst15 ov15 (by omega) (fv8.mono hNl8) cv1 cv2 cv3 (by simp only [List.length_append, List.length_cons, List.length_nil] at *; omega)).mono ?_
            rintro e0 w16 ⟨rfl, L6, V6, d4, d5, d6, K6⟩
            have HK6 := Lib.hid K6
            clear K6 hst15 ov15 cv1 cv2 cv3 hcv15
            go_wp2
            go_roundg 1
            case measure => omega
            case rel =>
              refine ⟨0 + 1, by omega, by go_num, .inr (.inl ⟨rfl, L6, V6, _, HK0.out.trans (KK1.out.trans (KK2.out.trans (KK3.out.trans (KK4.out.trans (HK5.out.trans HK6.out))))), ?_, ?_, ?_⟩)⟩
              · simp [hms, rndL, entL, HUe.out, HVe.out]
              · intro it hit
                simp only [List.mem_append, List.mem_cons, List.not_mem_nil, or_false] at hit
                rcases hit with h | rfl | rfl | rfl | rfl | (rfl | rfl | rfl) | rfl | rfl | rfl
                · exact hsm it h
                all_goals rfl
              · intro it hit
                simp only [List.mem_append, List.mem_cons, List.not_mem_nil, or_false] at hit
                rcases hit with h | rfl | rfl | rfl | rfl | (rfl | rfl | rfl) | rfl | rfl | rfl
                · exact hfr it h
                · exact fx1.mono hWlr
                · exact fyr.mono hWlr
                · exact fsr.mono hWlr
                · exact fzr.mono hWlr
                · exact fu8.1.mono hWl8
                · exact fu8.2.1.mono hWl8
                · exact fu8.2.2.mono hWl8
                · exact fv8.1.mono hWl8
                · exact fv8.2.1.mono hWl8
                · exact fv8.2.2.mono hWl8
          · obtain ⟨L0, V0, new, K0, hms, hsm, hfr⟩ := hR
            have hst0 := K0.st
            have hRd : RdE wr (.slice Ab1 bc.row.length cb1) (.slice Ab2 bc.qual.length cb2) (.slice Ab3 bc.value.length cb3) bc :=
              ⟨(HOb.out.row.rd).fr K0.fr HCb.out.1.off, (HOb.out.qual.rd).fr K0.fr HCb.out.2.1.off, (HOb.out.value.rd).fr K0.fr HCb.out.2.2.off⟩
            have hVr := HVl.out.fr K0.fr (Tb.clr HCl.out)
            have hcr := hVr.cell
            have hNr : N ≤ wr.heap.size := Nat.le_trans hNl K0.fr.size
            have hnl : (its ++ new).length ≤ 60 := by
              have h1 : new.length = (rndL ac).length := by rw [← hms]; simp
              have h3 := HN.out
              have h2 : (rndL ac).length ≤ 20 := by first | rfl | (simp only [rndL_len]; omega)
              rw [List.length_append]; omega
            have HKey := Lib.hid (fun W' (h : Ext wr W') => Key_ok _ _ _ bc W' (hRd.ext h) hfbc)
            have HPack := Lib.hid (fun W' (h : Ext wr W') => Pack_ok _ _ _ bc W' (hRd.ext h) hfbc)
            have HStart := Lib.hid (fun W' (h : Ext wr W') => Start_ok _ bc.row W' (hRd.row.ext h))
            have HBehind := Lib.hid (fun W' (h : Ext wr W') => Behind_ok _ bc.row W' (hRd.row.ext h))
            unfold entCells at HKey HPack
            have q1 := key_small bc
            have q2 := pack_small bc
            have q3 := start_small bc.row
            have q4 := behind_small bc.row
            have q5 := parseKey_small (keyL bc).1
            have q6 := unpack_small (packL bc).1 0
            unfold SmallE at q5 q6
            unfold Small at q1 q2 q3 q4 q5 q6
            have HK0 := Lib.hid K0
            have HST := Lib.hid hst0
            clear hRd K0 hst0
            clear HCA HCB HA HB HL HS hVa hV2 hlt1 hlt2 he10 he11 hE11 hEl hsz10 hll11 HCS HK
            go_wp2_with fail
            refine (HKey.out wr (Ext.refl _)).mono ?_
            rintro e0 w1 ⟨kx, rfl, ox1, fx1, e1⟩
            have hc1 := (hVr.ext e1).cell
            clear hcr
            go_wp2_with fail
            refine (HPack.out w1 e1).mono ?_
            rintro e0 w2 ⟨ky, rfl, oy2, fy2, e2'⟩
            have e2 := e1.trans e2'
            have hc2 := (hVr.ext e2).cell
            clear hc1
            go_wp2_with fail
            refine (HStart.out w2 e2).mono ?_
            rintro e0 w3 ⟨ks, rfl, os3, fs3, e3'⟩
            have e3 := e2.trans e3'
            have hc3 := (hVr.ext e3).cell
            clear hc2
            go_wp2_with fail
            refine (HBehind.out w3 e3).mono ?_
            rintro e0 w4 ⟨kz, rfl, oz4, fz4, e4'⟩
            have e4 := e3.trans e4'
            clear hc3 HKey HPack HStart HBehind
            go_wp2_with fail
            have ox4 := ((ox1.ext e2').ext e3').ext e4'
            have oy3 := oy2.ext e3'
            have oy4 := oy3.ext e4'
            have os4 := os3.ext e4'
            have fyr : From wr.heap.size ky := fy2.mono e1.size
            have fsr : From wr.heap.size ks := fs3.mono e2.size
            have fzr : From wr.heap.size kz := fz4.mono e3.size
            have clr0 : ∀ y, From wr.heap.size y → Clr (pcs p L0 V0 (its ++ new)) y := fun y hy => HST.out.clr hy
            refine (Keep_out w4 N p L0 V0 _ kx _ (HST.out.ext e4) ox4 (by omega) (fx1.mono hNr) (clr0 _ fx1) (by omega)).mono ?_
            rintro e0 w5 ⟨rfl, L1, V1, c1, K1⟩
            have cy1 := K1.clr1 (clr0 _ fyr) (Ow.sep ox1 fy2) (Ow.lt oy4)
            have cs1 := K1.clr1 (clr0 _ fsr) (Ow.sep (ox1.ext e2') fs3) (Ow.lt os4)
            have cz1 := K1.clr1 (clr0 _ fzr) (Ow.sep ((ox1.ext e2').ext e3') fz4) (Ow.lt oz4)
            have oy5 := oy4.fr K1.fr (clr0 _ fyr).off
            have os5 := os4.fr K1.fr (clr0 _ fsr).off
            have oz5 := oz4.fr K1.fr (clr0 _ fzr).off
            go_wp2_with fail
            refine (Keep_out w5 N p L1 V1 _ ky _ K1.st oy5 (by omega) (fyr.mono hNr) cy1 (by simp only [List.length_append, List.length_cons, List.length_nil] at *; omega)).mono ?_
            rintro e0 w6 ⟨rfl, L2, V2, c2, K2⟩
            have cs2 := K2.clr1 cs1 (Ow.sep oy2 fs3) (Ow.lt os5)
            have cz2 := K2.clr1 cz1 (Ow.sep oy3 fz4) (Ow.lt oz5)
            have os6 := os5.fr K2.fr cs1.off
            have oz6 := oz5.fr K2.fr cz1.off
            go_wp2_with fail
            refine (Keep_out w6 N p L2 V2 _ ks _ K2.st os6 (by omega) (fsr.mono hNr) cs2 (by simp only [List.length_append, List.length_cons, List.length_nil] at *; omega)).mono ?_
            rintro e0 w7 ⟨rfl, L3, V3, c3, K3⟩
            have cz3 := K3.clr1 cz2 (Ow.sep os3 fz4) (Ow.lt oz6)
            have oz7 := oz6.fr K3.fr cz2.off
            go_wp2_with fail
            refine (Keep_out w7 N p L3 V3 _ kz _ K3.st oz7 (by omega) (fzr.mono hNr) cz3 (by simp only [List.length_append, List.length_cons, List.length_nil] at *; omega)).mono ?_
            rintro e0 w8 ⟨rfl, L4, V4, c4, K4⟩
            have rx8 : RdB w8 kx (keyL bc).1 := (K4.st.own ⟨kx, c1, (keyL bc).1, (keyL bc).1⟩ (by simp)).1.rd
            have ry8 : RdB w8 ky (packL bc).1 := (K4.st.own ⟨ky, c2, (packL bc).1, (packL bc).1⟩ (by simp)).1.rd
            have KK1 := Lib.hid (KO.before e4 K1)
            have KK2 := Lib.hid K2
            have KK3 := Lib.hid K3
            have KK4 := Lib.hid K4
            have hNl8 : N ≤ w8.heap.size := Nat.le_trans hNr (Nat.le_trans e4.size (Nat.le_trans K1.fr.size (Nat.le_trans K2.fr.size (Nat.le_trans K3.fr.size K4.fr.size))))
            have hWl8 : Wl.heap.size ≤ w8.heap.size := Nat.le_trans HK0.out.fr.size (Nat.le_trans e4.size (Nat.le_trans K1.fr.size (Nat.le_trans K2.fr.size (Nat.le_trans K3.fr.size K4.fr.size))))
            have hWlr : Wl.heap.size ≤ wr.heap.size := HK0.out.fr.size
            clear cy1 cs1 cz1 cs2 cz2 cz3 ox4 oy4 os4 oz5 oz6 oz7 oy5 os5 os6 clr0 K1 K2 K3 K4
            go_wp2_with fail
            refine (copied_ok kx _ w8 rx8 (by omega)).mono ?_
            rintro e0 w9 ⟨xc, rfl, oc9, fc9, e9⟩
            go_wp2_with fail
            refine (ParseKey_ok xc _ w9 oc9.rd (by omega)).mono ?_
            rintro e0 w10' ⟨ur, uq, ux, rfl, ou, fu, e10⟩
            obtain ⟨U, hU⟩ : ∃ U, U = (parseKeyL (keyL bc).1).1 := ⟨_, rfl⟩
            rw [← hU] at ou q5 ⊢
            have HUe := Lib.hid hU
            clear hU
            obtain ⟨B1, b1, rfl, _⟩ := ou.row.rd.shape
            obtain ⟨B2, b2, rfl, _⟩ := ou.qual.rd.shape
            obtain ⟨B3, b3, rfl, _⟩ := ou.value.rd.shape
            simp only [entCells]
            have hVu := Var.new w10' #[.slice none 0 0, .int .i64 0, .slice none 0 0, .int .i64 0, .int .i64 0, .int .i64 0, .slice none 0 0] 24
            have hEu := (Ext.refl w10').alloc (.cells #[.slice none 0 0, .int .i64 0, .slice none 0 0, .int .i64 0, .int .i64 0, .int .i64 0, .slice none 0 0] 24)
            obtain ⟨W11, hW11⟩ : ∃ W11, w10'.alloc (.cells #[.slice none 0 0, .int .i64 0, .slice none 0 0, .int .i64 0, .int .i64 0, .int .i64 0, .slice none 0 0] 24) = W11 := ⟨_, rfl⟩
            rw [hW11] at hVu hEu
            have hcu := hVu.cell
            have hzu := hVu.frozen
            obtain ⟨y11, hy11, hV11, hg11⟩ := store7 hVu rfl (.slice B1 U.row.length b1) (.int .i64 U.fam) (.slice B2 U.qual.length b2) (.int .i64 U.ts) (.int .i64 U.seq) (.int .i64 U.kind) (.slice B3 U.value.length b3)
            have e11 : Ext w10' y11 := hEu.put hg11 (Nat.le_refl _)
            have HU := Lib.hid ou
            have HV11 := Lib.hid hV11
            clear ou hV11
            go_wp2_with fail
            clear hcu hzu hy11 hW11 hg11 hVu hEu
            have e811 := (e9.trans e10).trans e11
            refine (copied_ok ky _ y11 (ry8.ext e811) (by omega)).mono ?_
            rintro e0 w12 ⟨yc, rfl, oc12, fc12, e12⟩
            go_wp2_with fail
            refine (Unpack_ok yc _ 0 w12 oc12.rd (by omega)).mono ?_
            rintro e0 w13 ⟨vr, vq, vx, rfl, ov, fv, e13⟩
            obtain ⟨V, hV⟩ : ∃ V, V = (unpackL (packL bc).1 0).1 := ⟨_, rfl⟩
            rw [← hV] at ov q6 ⊢
            have HVe := Lib.hid hV
            clear hV
            obtain ⟨D1, t1, rfl, _⟩ := ov.row.rd.shape
            obtain ⟨D2, t2, rfl, _⟩ := ov.qual.rd.shape
            obtain ⟨D3, t3, rfl, _⟩ := ov.value.rd.shape
            simp only [entCells]
            have hVv := Var.new w13 #[.slice none 0 0, .int .i64 0, .slice none 0 0, .int .i64 0, .int .i64 0, .int .i64 0, .slice none 0 0] 24
            have hEv := (Ext.refl w13).alloc (.cells #[.slice none 0 0, .int .i64 0, .slice none 0 0, .int .i64 0, .int .i64 0, .int .i64 0, .slice none 0 0] 24)
            obtain ⟨W14, hW14⟩ : ∃ W14, w13.alloc (.cells #[.slice none 0 0, .int .i64 0, .slice none 0 0, .int .i64 0, .int .i64 0, .int .i64 0, .slice none 0 0] 24) = W14 := ⟨_, rfl⟩
            rw [hW14] at hVv hEv
            have hcv4 := hVv.cell
            have hzv4 := hVv.frozen
            obtain ⟨y14, hy14, hV14, hg14⟩ := store7 hVv rfl (.slice D1 V.row.length t1) (.int .i64 V.fam) (.slice D2 V.qual.length t2) (.int .i64 V.ts) (.int .i64 V.seq) (.int .i64 V.kind) (.slice D3 V.value.length t3)
            have e14 : Ext w13 y14 := hEv.put hg14 (Nat.le_refl _)
            have e1114 := (e12.trans e13).trans e14
            have hcu14 := (HV11.out.ext e1114).cell
            have e814 := e811.trans e1114
            have HVo := Lib.hid ov
            have HV14 := Lib.hid hV14
            clear ov hV14
            go_wp2_with fail
            clear hcv4 hzv4 hy14 hW14 hg14 hVv hEv hcu14
            have h89 := e9.size
            have h813 : w8.heap.size ≤ w13.heap.size := Nat.le_trans e811.size (e12.trans e13).size
            have h812 : w8.heap.size ≤ w12.heap.size := Nat.le_trans e811.size e12.size
            have hst14 := KK4.out.st.ext e814
            have clr8 : ∀ y, From w8.heap.size y → Clr (pcs p L4 V4 _) y := fun y hy => KK4.out.st.clr hy
            have ou14 := HU.out.ext (e11.trans e1114)
            have ov14 := HVo.out.ext e14
            have fu8 := fu.mono h89
            have fv8 := fv.mono h812
            have ou12 := HU.out.ext (e11.trans e12)
            refine (KEntry_ok y14 N p L4 V4 _ _ _ _ U hst14 ou14 (by omega) (fu8.mono hNl8) (clr8 _ fu8.1) (clr8 _ fu8.2.1) (clr8 _ fu8.2.2) (by simp only [List.length_append, List.length_cons, List.length_nil] at *; omega)).mono ?_
            rintro e0 w15 ⟨rfl, L5, V5, d1, d2, d3, K5⟩
            have hsep : ∀ y, From w12.heap.size y → ∀ it ∈ ([⟨.slice B1 U.row.length b1, d1, U.row, U.row⟩, ⟨.slice B2 U.qual.length b2, d2, U.qual, U.qual⟩, ⟨.slice B3 U.value.length b3, d3, U.value, U.value⟩] : List It), Sep it.v y := by
              intro y hy it hit
              simp only [List.mem_cons, List.not_mem_nil, or_false] at hit
              rcases hit with rfl | rfl | rfl
              · exact Ow.sep ou12.row hy
              · exact Ow.sep ou12.qual hy
              · exact Ow.sep ou12.value hy
            have cv1 := K5.clr _ (clr8 _ fv8.1) (hsep _ fv.1) (Ow.lt ov14.row)
            have cv2 := K5.clr _ (clr8 _ fv8.2.1) (hsep _ fv.2.1) (Ow.lt ov14.qual)
            have cv3 := K5.clr _ (clr8 _ fv8.2.2) (hsep _ fv.2.2) (Ow.lt ov14.value)
            have ov15 : OwE w15 (.slice D1 V.row.length t1) (.slice D2 V.qual.length t2) (.slice D3 V.value.length t3) V :=
              ⟨ov14.row.fr K5.fr (clr8 _ fv8.1).off, ov14.qual.fr K5.fr (clr8 _ fv8.2.1).off, ov14.value.fr K5.fr (clr8 _ fv8.2.2).off, ov14.rq, ov14.rx, ov14.qx⟩
            have hcv15 := (HV14.out.fr K5.fr (Tb.clr (clr8 _ (From.new _ _ _ _ _ h813)))).cell
            have HK5 := Lib.hid (KO.before e814 K5)
            have hst15 := K5.st
            clear K5 hsep clr8 ou14 ov14 ou12
            go_wp2_with fail
            refine (KEntry_ok w15 N p L5 V5 _ _ _ _ V hst15 ov15 (by omega) (fv8.mono hNl8) cv1 cv2 cv3 (by simp only [List.length_append, List.length_cons, List.length_nil] at *; omega)).mono ?_
            rintro e0 w16 ⟨rfl, L6, V6, d4, d5, d6, K6⟩
            have HK6 := Lib.hid K6
            clear K6 hst15 ov15 cv1 cv2 cv3 hcv15
            go_wp2
            go_roundg 0
            case measure => omega
            case rel =>
              refine ⟨1 + 1, by omega, by go_num, .inr (.inr ⟨rfl, L6, V6, _, HK0.out.trans (KK1.out.trans (KK2.out.trans (KK3.out.trans (KK4.out.trans (HK5.out.trans HK6.out))))), ?_, ?_, ?_⟩)⟩
              · simp [hms, rndL, entL, HUe.out, HVe.out]
              · intro it hit
                simp only [List.mem_append, List.mem_cons, List.not_mem_nil, or_false] at hit
                rcases hit with h | rfl | rfl | rfl | rfl | (rfl | rfl | rfl) | rfl | rfl | rfl
                · exact hsm it h
                all_goals rfl
              · intro it hit
                simp only [List.mem_append, List.mem_cons, List.not_mem_nil, or_false] at hit
                rcases hit with h | rfl | rfl | rfl | rfl | (rfl | rfl | rfl) | rfl | rfl | rfl
                · exact hfr it h
                · exact fx1.mono hWlr
                · exact fyr.mono hWlr
                · exact fsr.mono hWlr
                · exact fzr.mono hWlr
                · exact fu8.1.mono hWl8
                · exact fu8.2.1.mono hWl8
                · exact fu8.2.2.mono hWl8
                · exact fv8.1.mono hWl8
                · exact fv8.2.1.mono hWl8
                · exact fv8.2.2.mono hWl8
          · obtain ⟨L0, V0, new, K0, hms, hsm, hfr⟩ := hR
            have hst0 := K0.st
            have hTN : ∀ b, Tb p Lv Wv b → N ≤ b := fun b ht => HKl.out.tbN ht
            have hEr : Ext W wr := Fr.toExt (hE9.trans hEcl) K0.fr fun b hb => Nat.le_trans hWN (hTN b hb)
            have hLr := HL.out.ext hEr
            have hNr : N ≤ wr.heap.size := Nat.le_trans hNl K0.fr.size
            have hn20 : new.length = 20 := by
              have h1 := congrArg List.length hms
              simpa [rndL_len] using h1
            have hnl : (its ++ new).length ≤ 60 := by
              have h3 := HN.out
              rw [List.length_append]; omega
            have HP := Lib.hid (ParseKey_ok any l wr hLr hll)
            have HUn := Lib.hid (fun W' (h : Ext wr W') => Unpack_ok any l i0 W' (hLr.ext h) hll)
            have q5 := parseKey_small l
            have q6 := unpack_small l i0
            unfold SmallE at q5 q6
            unfold Small at q5 q6
            have HK0 := Lib.hid K0
            have HST := Lib.hid hst0
            have HMS := Lib.hid hms
            have HSM := Lib.hid hsm
            have HN20 := Lib.hid hn20
            clear K0 hst0 hLr hms hsm hfr hn20
            clear HCA HCB HA HB HL HS HOa HOb HCa HCb HCl HVl hfac hfbc hVa hV2 hwW hlt1 hlt2 he10 he11 hE11 hEl hsz10 hll11
            go_wp2_with fail
            refine HP.out.mono ?_
            rintro e0 w10' ⟨ur, uq, ux, rfl, ou, fu, e10⟩
            obtain ⟨U, hU⟩ : ∃ U, U = (parseKeyL l).1 := ⟨_, rfl⟩
            rw [← hU] at ou q5 ⊢
            have HUe := Lib.hid hU
            clear hU HP
            obtain ⟨B1, b1, rfl, -⟩ := ou.row.rd.shape
            obtain ⟨B2, b2, rfl, -⟩ := ou.qual.rd.shape
            obtain ⟨B3, b3, rfl, -⟩ := ou.value.rd.shape
            simp only [entCells]
            have hVu := Var.new w10' #[.slice none 0 0, .int .i64 0, .slice none 0 0, .int .i64 0, .int .i64 0, .int .i64 0, .slice none 0 0] 24
            have hEu := (Ext.refl w10').alloc (.cells #[.slice none 0 0, .int .i64 0, .slice none 0 0, .int .i64 0, .int .i64 0, .int .i64 0, .slice none 0 0] 24)
            obtain ⟨W11, hW11⟩ : ∃ W11, w10'.alloc (.cells #[.slice none 0 0, .int .i64 0, .slice none 0 0, .int .i64 0, .int .i64 0, .int .i64 0, .slice none 0 0] 24) = W11 := ⟨_, rfl⟩
            rw [hW11] at hVu hEu
            have hcu := hVu.cell
            have hzu := hVu.frozen
            obtain ⟨y11, hy11, hV11, hg11⟩ := store7 hVu rfl (.slice B1 U.row.length b1) (.int .i64 U.fam) (.slice B2 U.qual.length b2) (.int .i64 U.ts) (.int .i64 U.seq) (.int .i64 U.kind) (.slice B3 U.value.length b3)
            have e11 : Ext w10' y11 := hEu.put hg11 (Nat.le_refl _)
            have HU := Lib.hid ou
            have HV11 := Lib.hid hV11
            clear ou hV11
            go_wp2_with fail
            clear hcu hzu hy11 hW11 hg11 hVu hEu
            have e811 := e10.trans e11
            refine (HUn.out y11 e811).mono ?_
            rintro e0 w13 ⟨vr, vq, vx, rfl, ov, fv, e13⟩
            obtain ⟨V, hV⟩ : ∃ V, V = (unpackL l i0).1 := ⟨_, rfl⟩
            rw [← hV] at ov q6 ⊢
            have HVe := Lib.hid hV
            clear hV HUn
            obtain ⟨D1, t1, rfl, -⟩ := ov.row.rd.shape
            obtain ⟨D2, t2, rfl, -⟩ := ov.qual.rd.shape
            obtain ⟨D3, t3, rfl, -⟩ := ov.value.rd.shape
            simp only [entCells]
            have hVv := Var.new w13 #[.slice none 0 0, .int .i64 0, .slice none 0 0, .int .i64 0, .int .i64 0, .int .i64 0, .slice none 0 0] 24
            have hEv := (Ext.refl w13).alloc (.cells #[.slice none 0 0, .int .i64 0, .slice none 0 0, .int .i64 0, .int .i64 0, .int .i64 0, .slice none 0 0] 24)
            obtain ⟨W14, hW14⟩ : ∃ W14, w13.alloc (.cells #[.slice none 0 0, .int .i64 0, .slice none 0 0, .int .i64 0, .int .i64 0, .int .i64 0, .slice none 0 0] 24) = W14 := ⟨_, rfl⟩
            rw [hW14] at hVv hEv
            have hcv4 := hVv.cell
            have hzv4 := hVv.frozen
            obtain ⟨y14, hy14, hV14, hg14⟩ := store7 hVv rfl (.slice D1 V.row.length t1) (.int .i64 V.fam) (.slice D2 V.qual.length t2) (.int .i64 V.ts) (.int .i64 V.seq) (.int .i64 V.kind) (.slice D3 V.value.length t3)
            have e14 : Ext w13 y14 := hEv.put hg14 (Nat.le_refl _)
            have e1114 := e13.trans e14
            have hcu14 := (HV11.out.ext e1114).cell
            have e814 := e811.trans e1114
            have HVo := Lib.hid ov
            have HV14 := Lib.hid hV14
            clear ov hV14
            go_wp2_with fail
            clear hcv4 hzv4 hy14 hW14 hg14 hVv hEv hcu14
            have h813 : wr.heap.size ≤ w13.heap.size := Nat.le_trans e811.size e13.size
            have hst14 := HST.out.ext e814
            have clr8 : ∀ y, From wr.heap.size y → Clr (pcs p L0 V0 _) y := fun y hy => HST.out.clr hy
            have ou14 := HU.out.ext (e11.trans e1114)
            have ov14 := HVo.out.ext e14
            have fv8 := fv.mono e811.size
            have ou12 := HU.out.ext e11
            refine (KEntry_ok y14 N p L0 V0 _ _ _ _ U hst14 ou14 (by omega) (fu.mono hNr) (clr8 _ fu.1) (clr8 _ fu.2.1) (clr8 _ fu.2.2) (by omega)).mono ?_
            rintro e0 w15 ⟨rfl, L5, V5, d1, d2, d3, K5⟩
            have hsep : ∀ y, From y11.heap.size y → ∀ it ∈ ([⟨.slice B1 U.row.length b1, d1, U.row, U.row⟩, ⟨.slice B2 U.qual.length b2, d2, U.qual, U.qual⟩, ⟨.slice B3 U.value.length b3, d3, U.value, U.value⟩] : List It), Sep it.v y := by
              intro y hy it hit
              simp only [List.mem_cons, List.not_mem_nil, or_false] at hit
              rcases hit with rfl | rfl | rfl
              · exact Ow.sep ou12.row hy
              · exact Ow.sep ou12.qual hy
              · exact Ow.sep ou12.value hy
            have cv1 := K5.clr _ (clr8 _ fv8.1) (hsep _ fv.1) (Ow.lt ov14.row)
            have cv2 := K5.clr _ (clr8 _ fv8.2.1) (hsep _ fv.2.1) (Ow.lt ov14.qual)
            have cv3 := K5.clr _ (clr8 _ fv8.2.2) (hsep _ fv.2.2) (Ow.lt ov14.value)
            have ov15 : OwE w15 (.slice D1 V.row.length t1) (.slice D2 V.qual.length t2) (.slice D3 V.value.length t3) V :=
              ⟨ov14.row.fr K5.fr (clr8 _ fv8.1).off, ov14.qual.fr K5.fr (clr8 _ fv8.2.1).off, ov14.value.fr K5.fr (clr8 _ fv8.2.2).off, ov14.rq, ov14.rx, ov14.qx⟩
            have hcv15 := (HV14.out.fr K5.fr (Tb.clr (clr8 _ (From.new _ _ _ _ _ h813)))).cell
            have HK5 := Lib.hid (KO.before e814 K5)
            have hst15 := K5.st
            clear K5 hsep clr8 ou14 ov14 ou12
            go_wp2_with fail
            refine (KEntry_ok w15 N p L5 V5 _ _ _ _ V hst15 ov15 (by omega) (fv8.mono hNr) cv1 cv2 cv3 (by simp only [List.length_append, List.length_cons, List.length_nil] at *; omega)).mono ?_
            rintro e0 w16 ⟨rfl, L6, V6, d4, d5, d6, K6⟩
            have KF := HK0.out.trans (HK5.out.trans K6)
            obtain ⟨fin, hstF, hms6, hsm6⟩ : ∃ fin, Kst w16 N p L6 V6 fin ∧ fin.map (·.m) = P ++ AL ∧ ∀ it ∈ fin, it.l = it.m := by
              refine ⟨_, KF.st, ?_, ?_⟩
              · rw [List.map_append, List.map_append, HK.out.ms, HMS.out, HAL.out, HUe.out, HVe.out]
                rfl
              · intro it hit
                simp only [List.mem_append, List.mem_cons, List.not_mem_nil, or_false] at hit
                rcases hit with h | h | (rfl | rfl | rfl) | rfl | rfl | rfl
                · exact HK.out.same it h
                · exact HSM.out it h
                all_goals rfl
            have hEf : Ext W w16 := Fr.toExt (hE9.trans hEcl) KF.fr fun b hb => Nat.le_trans hWN (hTN b hb)
            have hfl : fin.length = its.length + 26 := by
              have h1 := congrArg List.length hms6
              have h3 := HN.out
              simp only [List.length_map, List.length_append] at h1
              omega
            have hcs6 : (i ≤ 1 ∧ u10 = .pointer none ∧ P = rep AL i) ∨ (i = 2 ∧ P = [] ∧ Old AL u10 N w16) := by
              rcases HCS.out with h | ⟨h1, h2, h3⟩
              · exact .inl h
              · exact .inr ⟨h1, h2, (h3.fr (Fr.ext hEcl fun _ => False) (fun _ h => h.elim)).fr KF.fr hTN⟩
            have HU6 := Lib.hid (Untouched_ok w16 N p L6 V6 fin hstF hsm6 (by have h3 := HN.out; omega))
            have HSTF := Lib.hid hstF
            have HMS6 := Lib.hid hms6
            have HSM6 := Lib.hid hsm6
            have HFL := Lib.hid hfl
            have HCS6 := Lib.hid hcs6
            clear KF K6 hstF hms6 hsm6 hfl hcs6 hst15 ov15 cv1 cv2 cv3 hcv15
            go_wp2_with fail
            refine HU6.out.mono ?_
            rintro e0 w17 ⟨rfl, e17⟩
            have hcs7 : (i ≤ 1 ∧ u10 = .pointer none ∧ P = rep AL i) ∨ (i = 2 ∧ P = [] ∧ Old AL u10 N w17) := by
              rcases HCS6.out with h | ⟨h1, h2, h3⟩
              · exact .inl h
              · exact .inr ⟨h1, h2, h3.fr (Fr.ext e17 fun _ => False) (fun _ h => h.elim)⟩
            have hst7 := HSTF.out.ext e17
            have hE7 := hEf.trans e17
            clear HU6 HCS6 HSTF
            obtain ⟨pF, NF, LF, WF, F, iF, R, hsel, hF, hFm⟩ := fst_pick hcs7 hst7 HMS6.out
            obtain ⟨Al, cl, rfl, -⟩ := hst7.L.shape
            obtain ⟨AF, cf, rfl, -⟩ := hF.W.shape
            have HCS7 := Lib.hid hcs7
            have HST7 := Lib.hid hst7
            have HSEL := Lib.hid hsel
            have HF := Lib.hid hF
            have HFM := Lib.hid hFm
            clear hcs7 hst7 hsel hF hFm
            obtain ⟨d, hd⟩ : ∃ d, (d = false ∧ u10 = .pointer none ∧ pF = p) ∨ (d = true ∧ u10 = .pointer (some ⟨pF, 0, none⟩)) := by
              rcases HSEL.out with ⟨h1, h2⟩ | h1
              · exact ⟨false, .inl ⟨rfl, h1, h2⟩⟩
              · exact ⟨true, .inr ⟨rfl, h1⟩⟩
            have HD := Lib.hid hd
            clear hd
            go_upto_region 36 with (fail)
            go_cut [151] from 150 to 150 (fun v wx => wx = w17 ∧ v = .bool d)
            case first =>
              rcases HD.out with ⟨rfl, rfl, hpp⟩ | ⟨rfl, rfl⟩
              · have HPP := Lib.hid hpp
                clear hpp
                go_wp2_with fail
                go_meet
                case rel => exact ⟨rfl, rfl⟩
              · go_wp2_with fail
                go_meet
                case rel => exact ⟨rfl, rfl⟩
            obtain ⟨rfl, rfl⟩ := hcut
            go_upto_if 151 with (fail)
            go_cut [33] from 149 to 180 (fun f wx => wx = wc ∧ f = .pointer (some ⟨pF, 0, none⟩))
            case first =>
              rcases HD.out with ⟨rfl, rfl, hpp⟩ | ⟨rfl, rfl⟩
              · have HPP := Lib.hid hpp
                clear hpp
                go_wp2_with fail
                go_meet
                case rel => exact ⟨rfl, by rw [HPP.out]⟩
              · go_wp2_with fail
                go_meet
                case rel => exact ⟨rfl, rfl⟩
            case rest =>
              obtain ⟨rfl, rfl⟩ := hcut
              have hps : P.length ≤ 26 := hPl
              clear hE hE9 HCS HK hEcl hPl hNl HKl hTN hEr hNr hnl q5 q6 HK0 HST HMS HSM HN20 e10 HUe e11 HU HV11 e811 HVe e13 e14 e1114 e814 HVo HV14 fu fv h813 fv8 HK5 hEf e17 HD HSEL hll
              have hpl := HST7.out.var.lt
              have hpF := HF.out.var.lt
              have hcp := HST7.out.var.cell
              have hcpF := HF.out.var.cell
              go_wp2_with fail
              go_loopg [34] 26 (fun g x wq => ∃ c : Nat, x = .int .i64 c ∧ (∃ j, c = its.length + j ∧ j + g = 26) ∧ Ext wc wq)
              case atStart => exact ⟨its.length, rfl, ⟨0, rfl, rfl⟩, Ext.refl _⟩
              case round =>
                obtain ⟨c, rfl, ⟨j, hcj, hjg⟩, he⟩ := hrel
                have HCJ := Lib.hid hcj
                have HJG := Lib.hid hjg
                clear hcj hjg
                have hc := fun o => (he.cells p o hpl).trans (hcp o)
                by_cases hlt : j < 26
                · obtain ⟨a1, A1, c1, a2, A2, c2, lc, rfl, rfl, h1, h2, ho1, ho2, hl1, hjF⟩ := cmp_at (HST7.out.ext he) HSM6.out HMS6.out (n := its.length) (by have := HN.out; omega) rfl (HF.out.ext he) HFM.out j (by have := HFL.out; omega)
                  rw [← HCJ.out] at h1
                  have h9 : c < 1000 := by have := HCJ.out; have := HN.out; omega
                  have h10 : (0 : Int) ≤ (c : Int) := by omega
                  have h11 : (c : Int) < (fin.length : Int) := by have := HCJ.out; have := HFL.out; omega
                  have h12 : (c : Int) - (its.length : Int) = (j : Int) := by have := HCJ.out; omega
                  have h13 : (0 : Int) ≤ (j : Int) := by omega
                  have h14 : (j : Int) < (F.length : Int) := by omega
                  have h17 : IntKind.i64.wrap (j : Int) = (j : Int) := by rw [IntKind.wrap_i64]; omega
                  have h16 : IntKind.i64.wrap ((c : Int) - (its.length : Int)) = (j : Int) := by rw [h12, h17]
                  have h15 : lc.length ≤ 140737488355328 := by omega
                  have HO1 := Lib.hid ho1
                  have HO2 := Lib.hid ho2
                  clear ho1 ho2
                  go_wp2_with fail
                  have k1' : wr.cell? ⟨p, 0, none⟩ = some (.slice (some a1) fin.length cl) := by rw [hc]; rfl
                  have k2' : wr.cell? ⟨pF, 1, none⟩ = some (.slice (some a2) F.length cf) := he.cell (by rw [hcpF]; rfl)
                  clear hc hcp hcpF
                  go_quiet ((go_at_call 16; refine Calls.quiet_of (same_q _ _ lc _ (HO1.out.ext ((Ext.refl _).drewN _)) (HO2.out.ext ((Ext.refl _).drewN _)) h15)))
                  go_wp2
                  go_roundg (25 - j)
                  case measure => have := HJG.out; omega
                  case rel => exact ⟨c + 1, by go_num, ⟨j + 1, by have := HCJ.out; omega, by have := HJG.out; omega⟩, he.drewN _⟩
                · have h11 : ¬ (c : Int) < (fin.length : Int) := by have := HCJ.out; have := HFL.out; omega
                  clear hcpF
                  go_wp2
                  go_roundg (2 - i)
                  case measure => omega
                  case rel =>
                    refine ⟨i + 1, by omega, by go_num, hE7.trans he, N, p, .slice Al fin.length cl, V6, fin, rfl, hWN, ?_⟩
                    rcases HCS7.out with ⟨h1, h2, h3⟩ | ⟨h1, h2, h3⟩
                    · exact .inl ⟨by omega, h2, ⟨HST7.out.ext he, by rw [HMS6.out, h3]; rfl, HSM6.out⟩⟩
                    · exact .inr ⟨by omega, ⟨HST7.out.ext he, by rw [HMS6.out, h2]; rfl, HSM6.out⟩, h3.fr (Fr.ext he fun _ => False) (fun _ h => h.elim)⟩
    · have hi4 : i = 3 := by omega
      clear hcv
      rcases HC.out with ⟨h2, _⟩ | ⟨_, hK, N0, p0, L0, W0, its0, hw0, hW0, hlt0⟩
      · omega
      · have HK := Lib.hid hK
        have HW0 := Lib.hid hW0
        have HLT := Lib.hid hlt0
        clear HC hK hW0 hlt0
        subst hw0
        subst hi4
        go_wp2_with fail
        refine (Settle_ok wr N p _ _ its HK.out.st HK.out.same (by have := HK.out.len; rw [hAl] at this; omega)).mono ?_
        rintro e0 w8 ⟨rfl, hf8, its', hL8, hM8⟩
        have hVs : ∀ b, Vs its b → N ≤ b := fun b ⟨it, hit, hb⟩ => HK.out.st.frm it.v (by simp only [pcs, vals, List.mem_cons, List.mem_flatMap]; exact .inr (.inr (.inr ⟨it, hit, by simp⟩))) b hb
        have hL0 := Lib.hid (HW0.out.st.fr hf8 fun z hz b hb hs => by have h1 := HLT.out z hz b hb; have h2 := hVs b hs; omega)
        have hE8 : Ext W w8 := Fr.toExt hE hf8 fun b hb => Nat.le_trans hWN (hVs b hb)
        have HL8 := Lib.hid hL8
        have HM8 := Lib.hid hM8
        clear hL8 hM8 hVs
        go_wp2_with fail
        refine (Settled_ok w8 N0 p0 _ _ _ its0 hL0.out HW0.out.mkd (by have h1 : its0.length = 52 := by { have h2 := congrArg List.length HW0.out.ms; rw [rep_len AL hAl] at h2; simpa using h2 }; omega)).mono ?_
        rintro e0 w9 ⟨rfl, e9⟩
        go_wp2_with fail
        refine (told_ok w9).mono ?_
        rintro e0 w10 ⟨rfl, e10⟩
        go_wp2
        go_ret
        exact ⟨rfl, ((hwW.trans hE8).trans e9).trans e10⟩
end Go.Proofs.Ytckhefkedkipeab

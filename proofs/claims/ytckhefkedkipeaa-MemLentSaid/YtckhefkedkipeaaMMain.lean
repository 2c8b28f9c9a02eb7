/- The walk of MemLent. -/
import Derived.Test.YtckhefkedkipeaaMMain1
import Derived.Test.YtckhefkedkipeaaMTold
import Derived.Deep.Cut
import Derived.Deep.CutRange
import Derived.Deep.LoopGhost
namespace Go.Proofs.Ytckhefkedkipeaa
open Go.RowKit
set_option linter.unusedVariables false

set_option maxHeartbeats 4000000 in
set_option maxRecDepth 100000 in
theorem MemLent_ok (Av r q x : Value) (ls : List Itm) (e : Ent) (w : World) (hL : RL w 0 Av ls) (hLok : ∀ i ∈ ls, i.e.Fits ∧ EOk i.e) (hn : ls.length ≤ 140737488351232) (hr : RdE w r q x e) (hf : e.Fits) (he : EOk e) :
    Calls Try.prog 3 #[Av, .agg (entCells r q x e)] w fun e0 w' => e0 = .returned (.bool true) ∧ Ext w w' := by
  have hVe := Var.new w (entCells r q x e) 25
  have hEe := (Ext.refl w).alloc (.cells (entCells r q x e) 25)
  unfold entCells at hVe hEe ⊢
  obtain ⟨We, hWe⟩ : ∃ We, w.alloc (.cells #[r, .int .i64 e.fam, q, .int .i64 e.ts, .int .i64 e.seq, .int .i64 e.kind, x] 25) = We := ⟨_, rfl⟩
  rw [hWe] at hVe hEe
  obtain ⟨_, A, c, rfl, hcc, _⟩ := hL.row
  have hlte : w.heap.size < We.heap.size := hVe.lt
  have HR := Lib.hid (hr.ext hEe)
  have HL := Lib.hid (hL.ext hEe)
  have HLOK := Lib.hid hLok
  have HVE := Lib.hid hVe
  clear hr hL hLok hVe
  go_enter Try.func3, Try.ntmps3
  go_wp2_with (first
    | (go_at_call 4; refine (told8_ok _).mono ?_; rintro e0 w1 ⟨rfl, he1⟩)
    | (go_at_call 5; have hx := hV2; refine (New_ok _).mono ?_; rintro e0 w3 ⟨rfl, hV3, he3, hs3⟩)
    | (go_at_call 5; refine (New_ok _).mono ?_; rintro e0 w2 ⟨rfl, hV2, he2, hs2⟩))
  clear hWe
  have hVr := Var.new w3 #[.slice none 0 0, .bool false] 30
  have hEr := (Ext.refl w3).alloc (.cells #[.slice none 0 0, .bool false] 30)
  obtain ⟨W1, hW1⟩ : ∃ W1, w3.alloc (.cells #[.slice none 0 0, .bool false] 30) = W1 := ⟨_, rfl⟩
  have hW1s : W1.heap.size = w1.heap.size + 3 := by rw [← hW1, World.size_alloc, hs3, hs2]
  rw [hW1] at hVr hEr ⊢
  rw [hs3, hs2] at hVr
  rw [hs2] at hV3
  have H0 : L1 We (w1.heap.size + 3) w1.heap.size (w1.heap.size + 1) (w1.heap.size + 1 + 1) 0 .leaf (.slice none 0 0) [] W1 :=
    ⟨((he1.trans he2).trans he3).trans hEr, (Tab.new (w' := w3) hV2 (by omega)).ext (he3.trans hEr), (Tab.new (w' := w3) hV3 (by omega)).ext hEr, hVr, ⟨Rd.nil _ _, by simp, fun z hz => by simp [strs] at hz; subst hz; exact From.nil _ _ _⟩, rfl, List.Pairwise.nil, by simp [Tr.list], by simp [Tr.list], by simp [Tr.size], by omega⟩
  have hWe1 := he1.size
  clear hV2 hV3 hVr he2 he3 hEr hs2 hs3 he1 hW1 hW1s
  generalize w1.heap.size = pa at *
  go_loopg [8] (min ls.length 30) (fun g y wr => ∃ i t Lv js, y = .int .i64 ((i : Nat) : Int) ∧ i + g = min ls.length 30 ∧ L1 We (pa + 3) pa (pa + 1) (pa + 1 + 1) i t Lv js wr)
  case atStart => exact ⟨0, .leaf, _, [], rfl, by omega, H0⟩
  case round =>
    clear H0
    obtain ⟨i, t, Lv, js, rfl, hig, H⟩ := hrel
    obtain ⟨d, hd⟩ : ∃ d : Bool, (d = true ∧ i < ls.length ∧ i < 30) ∨ (d = false ∧ ¬ (i < ls.length ∧ i < 30)) := by
      by_cases h : i < ls.length ∧ i < 30
      · exact ⟨true, .inl ⟨rfl, h⟩⟩
      · exact ⟨false, .inr ⟨rfl, h⟩⟩
    have HD := Lib.hid hd
    have HH := Lib.hid H
    clear hd H
    go_upto_region 8 with (fail)
    go_cut [35] from 28 to 34 (fun v wx => wx = wr ∧ v = .bool d)
    case first =>
      rcases HD.out with ⟨rfl, h1, h2⟩ | ⟨rfl, h1⟩
      · have h3 : ((i : Nat) : Int) < 30 := by omega
        go_wp2_with fail
        go_meet
        case rel => exact ⟨rfl, by simp⟩
      · by_cases h2 : i < ls.length
        · have h3 : ¬ ((i : Nat) : Int) < 30 := fun h => h1 ⟨h2, by omega⟩
          go_wp2_with fail
          go_meet
          case rel => exact ⟨rfl, by simp⟩
        · go_wp2_with fail
          go_meet
          case rel => exact ⟨rfl, rfl⟩
    obtain ⟨rfl, rfl⟩ := hcut
    rcases HD.out with ⟨rfl, h1, h2⟩ | ⟨rfl, h1⟩
    · obtain ⟨a, A1, d1, A2, d2, A3, d3, ek, rfl, hit, hrk, c0, c1, c2, c3, c4, c5, c6⟩ := HL.out.at_ i h1
      obtain ⟨hfk, hek⟩ := HLOK.out _ (List.mem_of_getElem? hit)
      have hk : ∀ w', Ext We w' → w'.cell? (a.add (i * 7)) = some (.slice A1 ek.row.length d1) ∧ w'.cell? ⟨(a.add (i * 7)).block, (a.add (i * 7)).off + 1, none⟩ = some (.int .i64 ek.fam) ∧ w'.cell? ⟨(a.add (i * 7)).block, (a.add (i * 7)).off + 2, none⟩ = some (.slice A2 ek.qual.length d2) ∧ w'.cell? ⟨(a.add (i * 7)).block, (a.add (i * 7)).off + 3, none⟩ = some (.int .i64 ek.ts) ∧ w'.cell? ⟨(a.add (i * 7)).block, (a.add (i * 7)).off + 4, none⟩ = some (.int .i64 ek.seq) ∧ w'.cell? ⟨(a.add (i * 7)).block, (a.add (i * 7)).off + 5, none⟩ = some (.int .i64 ek.kind) ∧ w'.cell? ⟨(a.add (i * 7)).block, (a.add (i * 7)).off + 6, none⟩ = some (.slice A3 ek.value.length d3) :=
        fun w' h => ⟨h.cell c0, h.cell c1, h.cell c2, h.cell c3, h.cell c4, h.cell c5, h.cell c6⟩
      have HK := Lib.hid hk
      have hk2 : ∀ w', Ext wc w' → w'.cell? (a.add (i * 7)) = some (.slice A1 ek.row.length d1) ∧ w'.cell? ⟨(a.add (i * 7)).block, (a.add (i * 7)).off + 1, none⟩ = some (.int .i64 ek.fam) ∧ w'.cell? ⟨(a.add (i * 7)).block, (a.add (i * 7)).off + 2, none⟩ = some (.slice A2 ek.qual.length d2) ∧ w'.cell? ⟨(a.add (i * 7)).block, (a.add (i * 7)).off + 3, none⟩ = some (.int .i64 ek.ts) ∧ w'.cell? ⟨(a.add (i * 7)).block, (a.add (i * 7)).off + 4, none⟩ = some (.int .i64 ek.seq) ∧ w'.cell? ⟨(a.add (i * 7)).block, (a.add (i * 7)).off + 5, none⟩ = some (.int .i64 ek.kind) ∧ w'.cell? ⟨(a.add (i * 7)).block, (a.add (i * 7)).off + 6, none⟩ = some (.slice A3 ek.value.length d3) ∧ w'.cell? ⟨pa + 1 + 1, 0, none⟩ = some Lv ∧ w'.cell? ⟨pa + 1 + 1, 1, none⟩ = some (.bool false) := by
        intro w' h
        obtain ⟨g0, g1, g2, g3, g4, g5, g6⟩ := hk w' (HH.out.ext.trans h)
        exact ⟨g0, g1, g2, g3, g4, g5, g6, h.cell (by rw [HH.out.var.cell]; rfl), h.cell (by rw [HH.out.var.cell]; rfl)⟩
      have HK2 := Lib.hid hk2
      have hen : ∀ W', Ext We W' → Calls Try.prog 7 #[.agg (entCells (.slice A1 ek.row.length d1) (.slice A2 ek.qual.length d2) (.slice A3 ek.value.length d3) ek)] W' (OutE W' ek.cut) := fun W' h => entry8_ok _ _ _ ek W' (hrk.ext h) hfk
      have had : ∀ W' r q x, Ext wc W' → RdE W' r q x ek.cut → Calls Try.prog 6 #[.agg #[Lv, .bool false], .agg (entCells r q x ek.cut)] W' (OutA (pa + 3) W' (refL ek.cut t.list) (refCode ek.cut t.list)) := by
        intro W' r q x h hr
        have h2 := HH.out.len
        have h3 := HH.out.size
        have h4 := rAdd_ok Lv r q x js ek.cut (pa + 3) W' (HH.out.rl.ext h) (Nat.le_trans HH.out.N h.size) (by omega) HH.out.isok hr hek.cut hfk.cut
        rw [HH.out.es] at h4
        exact h4
      have hta : ∀ W' p, RdE W' (.slice A1 ek.row.length d1) (.slice A2 ek.qual.length d2) (.slice A3 ek.value.length d3) ek → pa + 3 ≤ W'.heap.size → Tab W' (pa + 3) p t → Calls Try.prog 8 #[.pointer (some ⟨p, 0, none⟩), .agg (entCells (.slice A1 ek.row.length d1) (.slice A2 ek.qual.length d2) (.slice A3 ek.value.length d3) ek)] W' fun e0 w' => e0 = .returned (.int .i64 (refCode ek.cut t.list)) ∧ Fr (fun k => k = p) W' w' ∧ Tab w' (pa + 3) p (addTr ek t) := by
        intro W' p h hN hT
        have h3 := HH.out.size
        have h4 := TAdd_ok _ _ _ ek t p (pa + 3) W' h hfk hN hT (by omega)
        rw [(add_agree ek t HH.out.srt).1] at h4
        exact h4
      have HRK := Lib.hid hrk
      have HEK := Lib.hid hek
      generalize refCode ek.cut t.list = cd at *
      unfold entCells at hen had hta
      have e1 : ek.cut.fam = ek.fam := rfl
      have e2 : ek.cut.ts = ek.ts := rfl
      have e3 : ek.cut.seq = ek.seq := rfl
      have e4 : ek.cut.kind = ek.kind := rfl
      have HEN := Lib.hid hen
      have HAD := Lib.hid had
      have HTA := Lib.hid hta
      have h10 : (0 : Int) ≤ ((i : Nat) : Int) := by omega
      have h11 : ((i : Nat) : Int) < (ls.length : Int) := by omega
      clear hk hk2 hen had hta hit hrk c0 c1 c2 c3 c4 c5 c6 hfk hek
      go_upto_region 10 with (fail)
      go_cut [9, 10] from 38 to 47 (fun now want wx => want = .int .i64 cd ∧ ∃ bn A6 c6 js6, now = .pointer (some ⟨bn, 0, none⟩) ∧ pa + 3 ≤ bn ∧ Var wx bn 30 #[.slice A6 (List.length js6) c6, .bool false] ∧ RL wx (pa + 3) (.slice A6 js6.length c6) js6 ∧ js6.map (·.e) = refL ek.cut t.list ∧ Ext wc wx)
      case first =>
        go_wp2_with fail
        go_region_held3 (fun w' => w'.cell? (a.add (i * 7)) = some (.slice A1 ek.row.length d1) ∧ w'.cell? ⟨(a.add (i * 7)).block, (a.add (i * 7)).off + 1, none⟩ = some (.int .i64 ek.fam) ∧ w'.cell? ⟨(a.add (i * 7)).block, (a.add (i * 7)).off + 2, none⟩ = some (.slice A2 ek.qual.length d2) ∧ w'.cell? ⟨(a.add (i * 7)).block, (a.add (i * 7)).off + 3, none⟩ = some (.int .i64 ek.ts) ∧ w'.cell? ⟨(a.add (i * 7)).block, (a.add (i * 7)).off + 4, none⟩ = some (.int .i64 ek.seq) ∧ w'.cell? ⟨(a.add (i * 7)).block, (a.add (i * 7)).off + 5, none⟩ = some (.int .i64 ek.kind) ∧ w'.cell? ⟨(a.add (i * 7)).block, (a.add (i * 7)).off + 6, none⟩ = some (.slice A3 ek.value.length d3) ∧ w'.cell? ⟨pa + 1 + 1, 0, none⟩ = some Lv ∧ w'.cell? ⟨pa + 1 + 1, 1, none⟩ = some (.bool false))
          ((refine HK2.out _ ?_; repeat (first | exact Ext.refl _ | exact (Ext.refl _).drew | refine Ext.trans ?_ he6 | refine Ext.trans ?_ he5 | refine Ext.alloc ?_ _ | refine Ext.setCell ?_ (by simp only; omega) _ | refine Ext.drew ?_)))
          (first
            | (go_at_call 7; refine (HEN.out _ (HH.out.ext.trans (by first | exact (Ext.refl _).drew | exact ((Ext.refl _).alloc _).drew | exact (Ext.refl _).drew.alloc _))).mono ?_; rintro e0 w5 ⟨r5, q5, x5, rfl, ho5, hf5, he5⟩; simp only [entCells]; have hs5 : wc.heap.size ≤ w5.heap.size := Nat.le_trans (by first | exact Nat.le_refl _ | simp) he5.size)
            | (go_at_call 6; refine (HAD.out _ r5 q5 x5 (by first | exact (Ext.refl _).drew.trans he5 | exact ((Ext.refl _).drew.trans he5).alloc _ | exact (((Ext.refl _).alloc _).drew).trans he5) (by first | exact ho5.rd | exact ho5.rd.alloc _)).mono ?_; rintro e0 w6 ⟨v6, js6, rfl, hrl6, hes6, he6⟩; obtain ⟨_, A6, c6, rfl, hc6, _⟩ := hrl6.row; have hs6 : w5.heap.size ≤ w6.heap.size := Nat.le_trans (by first | exact Nat.le_refl _ | simp) he6.size; (first | have hVn : Var w6 wc.heap.size 30 #[.slice none 0 0, .bool false] := (((Var.new wc _ _).drew).ext he5).ext he6 | have hVn : Var w6 w5.heap.size 30 #[.slice none 0 0, .bool false] := (Var.new w5 _ _).ext he6 | have hVn := Var.new w6 #[.slice none 0 0, .bool false] 30); have kc := hVn.cell; have kz := hVn.frozen))
        all_goals go_wp2_with fail
        · go_meet
          case rel => exact ⟨rfl, _, A6, c6, js6, rfl, by have := HH.out.N; omega, Var.new w6 _ _, hrl6.ext ((Ext.refl _).alloc _), hes6, (((Ext.refl wc).drew.trans he5).trans he6).alloc _⟩
        · go_meet
          case rel =>
            have hf7 := (Fr.set w6 w5.heap.size 0 (.slice A6 js6.length c6)).trans (Fr.set _ w5.heap.size 1 (.bool false))
            exact ⟨rfl, _, A6, c6, js6, rfl, by have := HH.out.N; omega, (hVn.set 0 _).set 1 _, hrl6.keepT hVn hf7, hes6, Fr.toExt ((((Ext.refl wc).drew.trans he5).alloc _).trans he6) hf7 fun k hk => by subst hk; exact hs5⟩
        · go_meet
          case rel =>
            have hf7 := (Fr.set w6 wc.heap.size 0 (.slice A6 js6.length c6)).trans (Fr.set _ wc.heap.size 1 (.bool false))
            exact ⟨rfl, _, A6, c6, js6, rfl, by have := HH.out.N; omega, (hVn.set 0 _).set 1 _, hrl6.keepT hVn hf7, hes6, Fr.toExt (((((Ext.refl wc).alloc _).drew).trans he5).trans he6) hf7 fun k hk => by subst hk; exact Nat.le_refl _⟩
      case rest =>
        obtain ⟨rfl, bn, A6, c6, js6, rfl, hbn, hVn, hrl6, hes6, he6⟩ := hcut
        obtain ⟨g0, g1, g2, g3, g4, g5, g6⟩ := HK.out _ (HH.out.ext.trans he6)
        have hN6 : pa + 3 ≤ wc.heap.size := Nat.le_trans HH.out.N he6.size
        have HVN := Lib.hid hVn
        have HRL6 := Lib.hid hrl6
        clear hVn hrl6
        go_wp2_with (first
          | (go_at_call 8; (with_reducible refine (HTA.out _ (pa + 1) (HRK.out.ext hE7) (Nat.le_trans hN6 hf7.size) ((HH.out.b.ext he6).fr hf7 (fun b hb => by omega) (by omega))).mono ?_); rintro e0 w8 ⟨rfl, hf8, hT8⟩; have hn8 := (((HVN.out.fr hf7 (by omega)).fr hf8 (by omega))).cell; have hr8 := ((HH.out.var.ext he6).fr hf7 (by omega)).fr hf8 (by omega); have hc8 := hr8.cell; have hz8 := hr8.frozen; clear hr8)
          | (go_at_call 8; (with_reducible refine (HTA.out _ pa (HRK.out.ext (HH.out.ext.trans he6)) hN6 (HH.out.a.ext he6)).mono ?_); rintro e0 w7 ⟨rfl, hf7, hT7⟩; have hE7 : Ext We w7 := Fr.toExt (HH.out.ext.trans he6) hf7 (fun k hk => by subst hk; exact hWe1); obtain ⟨q0, q1, q2, q3, q4, q5, q6⟩ := HK.out _ hE7))
        go_roundg (gk - 1)
        case measure => omega
        case rel => exact ⟨i + 1, addTr ek t, _, js6, by go_num, by omega, L1.next HH.out HEK.out he6 HRL6.out (by rw [hes6, HH.out.es]) (Ext.refl _) hf7 hT7 hf8 hT8 (by omega) (by omega) (by omega) (by omega) (by omega) (by omega) (by omega)⟩
    · obtain ⟨Wz, rfl⟩ : ∃ z, z = wc := ⟨_, rfl⟩
      have hts : t.size ≤ 30 := by have := HH.out.size; omega
      have hlen1 : t.list.length ≤ 30 := by rw [Tr.size_list]; exact hts
      have hlen0 : (fromL e t.list).length ≤ 30 := Nat.le_trans (List.dropWhile_sublist _).length_le hlen1
      have hok0 : ∀ y ∈ fromL e t.list, checkL y = 0 := fun y hy => HH.out.ok y ((List.dropWhile_sublist _).subset hy)
      have hok1 : ∀ y ∈ t.list, checkL y = 0 := HH.out.ok
      have hEw : Ext w Wz := hEe.trans HH.out.ext
      have hfr : ∀ W' pq, Tab Wz (pa + 3) pq t → Ext Wz W' → Calls Try.prog 9 #[.pointer (some ⟨pq, 0, none⟩), .agg (entCells r q x e)] W' (OutL W' (fromL e t.list)) := fun W' pq hT h =>
        from_ok pq (pa + 3) t r q x e W' (hT.ext h) (Nat.le_trans HH.out.N h.size) hok1 (by omega) HH.out.srt (HR.out.ext (HH.out.ext.trans h)) hf.row hf.qual hf.value
      have hro : ∀ W' pq, Tab Wz (pa + 3) pq t → Ext Wz W' → Calls Try.prog 10 #[.pointer (some ⟨pq, 0, none⟩)] W' (OutL W' t.list) := fun W' pq hT h =>
        rows_ok pq (pa + 3) t W' (hT.ext h) (Nat.le_trans HH.out.N h.size) hok1 (by omega)
      have hrf : ∀ W', Ext Wz W' → Calls Try.prog 11 #[.agg #[Lv, .bool false], .agg (entCells r q x e)] W' (OutPL (pa + 3) W' (fromL e t.list)) := by
        intro W' h
        have h2 := HH.out.len
        have h4 := rFrom_ok Lv r q x js e false (pa + 3) W' (HH.out.rl.ext h) (by omega) HH.out.isok (HR.out.ext (HH.out.ext.trans h)) he
        rw [HH.out.es] at h4
        exact h4
      have hce : ∀ W', Ext Wz W' → W'.cell? ⟨w.heap.size, 0, none⟩ = some r ∧ W'.cell? ⟨w.heap.size, 1, none⟩ = some (.int .i64 e.fam) ∧ W'.cell? ⟨w.heap.size, 2, none⟩ = some q ∧ W'.cell? ⟨w.heap.size, 3, none⟩ = some (.int .i64 e.ts) ∧ W'.cell? ⟨w.heap.size, 4, none⟩ = some (.int .i64 e.seq) ∧ W'.cell? ⟨w.heap.size, 5, none⟩ = some (.int .i64 e.kind) ∧ W'.cell? ⟨w.heap.size, 6, none⟩ = some x := by
        intro W' h
        have hc := (HVE.out.ext (HH.out.ext.trans h)).cell
        exact ⟨by rw [hc]; rfl, by rw [hc]; rfl, by rw [hc]; rfl, by rw [hc]; rfl, by rw [hc]; rfl, by rw [hc]; rfl, by rw [hc]; rfl⟩
      have hcr : ∀ W', Ext Wz W' → W'.cell? ⟨pa + 1 + 1, 0, none⟩ = some Lv ∧ W'.cell? ⟨pa + 1 + 1, 1, none⟩ = some (.bool false) := by
        intro W' h
        have hc := (HH.out.var.ext h).cell
        exact ⟨by rw [hc]; rfl, by rw [hc]; rfl⟩
      obtain ⟨_, Aj, cj, rfl, hcj, _⟩ := HH.out.rl.row
      have hrl : RL Wz (pa + 3) (.slice Aj js.length cj) js := HH.out.rl
      have hjs : js.map (·.e) = t.list := HH.out.es
      have hTa := HH.out.a
      have hTb := HH.out.b
      have hpw : pa + 3 ≤ Wz.heap.size := HH.out.N
      generalize fromL e t.list = E0 at *
      generalize t.list = E1 at *
      have hVk := Var.new Wz #[.slice none 0 0, .slice none 0 0] 39
      have hEk := (Ext.refl Wz).alloc (.cells #[.slice none 0 0, .slice none 0 0] 39)
      unfold entCells at hfr hrf
      have HFR := Lib.hid hfr
      have HRO := Lib.hid hro
      have HRF := Lib.hid hrf
      have HCE := Lib.hid hce
      have HCR := Lib.hid hcr
      have HRL := Lib.hid hrl
      have HJS := Lib.hid hjs
      have HTa := Lib.hid hTa
      have HTb := Lib.hid hTb
      have HK0 := Lib.hid (Kst.new hVk)
      have HEK := Lib.hid hEk
      clear hfr hro hrf hce hcr hrl hjs hTa hTb hVk hEk HH HD HL HLOK HVE HR hig hEe hlte hcc
      go_wp2_with fail
      go_loopg [12] 2 (fun g y wr => ∃ (k : Nat) (Lk Wk : Value) (its : List It), y = .int .i64 k ∧ k + g = 2 ∧ Kst wr Wz.heap.size Wz.heap.size Lk Wk its ∧ (∀ it ∈ its, it.l = it.m) ∧ its.length ≤ 360 * k ∧ Ext Wz wr)
      case atStart => exact ⟨0, _, _, [], rfl, rfl, HK0.out, by simp, by simp, HEK.out⟩
      case round =>
        obtain ⟨k, Lk, Wk, its, rfl, hkg, hk1, hk2, hk3, hE⟩ := hrel
        obtain ⟨gk2, rfl⟩ : ∃ z, z = gk := ⟨_, rfl⟩
        have HK1 := Lib.hid hk1
        have HK2 := Lib.hid hk2
        clear hk1 hk2 HK0 HEK
        by_cases hk : k < 2
        · go_wp2_with fail
          go_region_held3 (fun W' => W'.cell? ⟨w.heap.size, 0, none⟩ = some r ∧ W'.cell? ⟨w.heap.size, 1, none⟩ = some (.int .i64 e.fam) ∧ W'.cell? ⟨w.heap.size, 2, none⟩ = some q ∧ W'.cell? ⟨w.heap.size, 3, none⟩ = some (.int .i64 e.ts) ∧ W'.cell? ⟨w.heap.size, 4, none⟩ = some (.int .i64 e.seq) ∧ W'.cell? ⟨w.heap.size, 5, none⟩ = some (.int .i64 e.kind) ∧ W'.cell? ⟨w.heap.size, 6, none⟩ = some x)
            ((refine HCE.out _ ?_; repeat (first | exact hE | refine Ext.trans ?_ hl4.ext | refine Ext.trans ?_ hl3.ext | refine Ext.trans ?_ hl2.ext | refine Ext.trans ?_ hl1.ext | refine Ext.alloc ?_ _ | refine Ext.drew ?_)))
            (first
              | (go_at_call 9; have hx := hl1; (with_reducible refine (HFR.out _ (pa + 1) HTb.out (hE.drew.trans hl1.ext)).mono ?_); rintro e0 w2 ⟨v2, is2, rfl, hl2, hm2⟩; obtain ⟨A2, c2, rfl, hc2⟩ := Ow.shape hl2.row)
              | (go_at_call 9; (with_reducible refine (HFR.out _ pa HTa.out hE.drew).mono ?_); rintro e0 w1 ⟨v1, is1, rfl, hl1, hm1⟩; obtain ⟨A1, c1, rfl, hc1⟩ := Ow.shape hl1.row)
              | (go_at_call 10; have hx := hl3; (with_reducible refine (HRO.out _ (pa + 1) HTb.out (((hE.drew.trans hl1.ext).trans hl2.ext).trans hl3.ext)).mono ?_); rintro e0 w4 ⟨v4, is4, rfl, hl4, hm4⟩; obtain ⟨A4, c4, rfl, hc4⟩ := Ow.shape hl4.row)
              | (go_at_call 10; (with_reducible refine (HRO.out _ pa HTa.out ((hE.drew.trans hl1.ext).trans hl2.ext)).mono ?_); rintro e0 w3 ⟨v3, is3, rfl, hl3, hm3⟩; obtain ⟨A3, c3, rfl, hc3⟩ := Ow.shape hl3.row))
          have hVl := Var.new w4 #[.slice A1 is1.length c1, .slice A2 is2.length c2, .slice A3 is3.length c3, .slice A4 is4.length c4] 22
          have hEl := (Ext.refl w4).alloc (.cells #[.slice A1 is1.length c1, .slice A2 is2.length c2, .slice A3 is3.length c3, .slice A4 is4.length c4] 22)
          obtain ⟨W4, hW4⟩ : ∃ W4, w4.alloc (.cells #[.slice A1 is1.length c1, .slice A2 is2.length c2, .slice A3 is3.length c3, .slice A4 is4.length c4] 22) = W4 := ⟨_, rfl⟩
          rw [hW4] at hVl hEl
          have e1 : Ext wr w1 := (Ext.refl wr).drew.trans hl1.ext
          have e2 := e1.trans hl2.ext
          have e3 := e2.trans hl3.ext
          have e4 := e3.trans hl4.ext
          have hLs : Lists wr W4 [(.slice A1 is1.length c1, is1), (.slice A2 is2.length c2, is2), (.slice A3 is3.length c3, is3), (.slice A4 is4.length c4, is4)] :=
            (((((Lists.nil wr wr.drew).snoc (Ext.refl wr).drew hl1).snoc e1 hl2).snoc e2 hl3).snoc e3 hl4).ext hEl
          have e5 : Ext wr W4 := e4.trans hEl
          have hK4 := HK1.out.ext e5
          have hs4 : wr.heap.size ≤ w4.heap.size := e4.size
          have hEs := hE.size
          have hall : ∀ q ∈ [((.slice A1 is1.length c1 : Value), is1), (.slice A2 is2.length c2, is2), (.slice A3 is3.length c3, is3), (.slice A4 is4.length c4, is4)], q.2.length ≤ 30 ∧ ∀ i ∈ q.2, checkL i.e = 0 := by
            have hl : ∀ (is : List Itm) (E : List Ent), is.map (·.e) = E → E.length ≤ 30 → (∀ y ∈ E, checkL y = 0) → is.length ≤ 30 ∧ ∀ i ∈ is, checkL i.e = 0 := by
              intro is E h h1 h2
              subst h
              exact ⟨by simpa using h1, fun i hi => h2 _ (List.mem_map_of_mem hi)⟩
            intro q hq
            simp only [List.mem_cons, List.not_mem_nil, or_false] at hq
            rcases hq with rfl | rfl | rfl | rfl
            · exact hl _ _ hm1 hlen0 hok0
            · exact hl _ _ hm2 hlen0 hok0
            · exact hl _ _ hm3 hlen1 hok1
            · exact hl _ _ hm4 hlen1 hok1
          have hpick : ∀ n, n < 4 → ∃ Aq cq isq, (#[.slice A1 is1.length c1, .slice A2 is2.length c2, .slice A3 is3.length c3, .slice A4 is4.length c4] : Array Value)[n]? = some (.slice Aq (List.length isq) cq) ∧ [((.slice A1 is1.length c1 : Value), is1), (.slice A2 is2.length c2, is2), (.slice A3 is3.length c3, is3), (.slice A4 is4.length c4, is4)][n]? = some (.slice Aq isq.length cq, isq) ∧ isq.map (·.e) = if n < 2 then E0 else E1 := by
            intro n hn
            match n, hn with
            | 0, _ => exact ⟨A1, c1, is1, rfl, rfl, hm1⟩
            | 1, _ => exact ⟨A2, c2, is2, rfl, rfl, hm2⟩
            | 2, _ => exact ⟨A3, c3, is3, rfl, rfl, hm3⟩
            | 3, _ => exact ⟨A4, c4, is4, rfl, rfl, hm4⟩
          have hE4 : Ext Wz W4 := hE.trans e5
          have HLS := Lib.hid hLs
          have HK4 := Lib.hid hK4
          have HALL := Lib.hid hall
          have HPICK := Lib.hid hpick
          have HVL := Lib.hid hVl
          have HE4 := Lib.hid hE4
          have HE5 := Lib.hid e5
          clear hLs hK4 hall hpick hVl hE4 e1 e2 e3 e4 e5 hl1 hl2 hl3 hl4 hm1 hm2 hm3 hm4 hEl
          obtain ⟨vs, hvs⟩ : ∃ vs, [((.slice A1 is1.length c1 : Value), is1), (.slice A2 is2.length c2, is2), (.slice A3 is3.length c3, is3), (.slice A4 is4.length c4, is4)] = vs := ⟨_, rfl⟩
          rw [hvs] at HLS HALL HPICK
          have hvl : vs.length = 4 := by rw [← hvs]; rfl
          clear hvs
          obtain ⟨ar, har⟩ : ∃ ar : Array Value, #[.slice A1 is1.length c1, .slice A2 is2.length c2, .slice A3 is3.length c3, .slice A4 is4.length c4] = ar := ⟨_, rfl⟩
          rw [har] at HVL HPICK
          clear har
          rw [hW4]
          clear hW4
          go_wp2_with fail
          go_loopg [14] 4 (fun g y wq => ∃ n : Nat, y = .int .i64 n ∧ n + g = 4 ∧ KR W4 Wz.heap.size Wz.heap.size Lk Wk its (allI (vs.take n)) wq)
          case atStart => exact ⟨0, rfl, rfl, KR.none HK4.out (Ext.refl _)⟩
          case round =>
            obtain ⟨n, rfl, hng, hKR⟩ := hrel
            obtain ⟨gk3, rfl⟩ : ∃ z, z = gk := ⟨_, rfl⟩
            have HKR := Lib.hid hKR
            clear hKR
            by_cases hn4 : n < 4
            · obtain ⟨Aq, cq, isq, hq1, hq2, hq3⟩ := HPICK.out n hn4
              obtain ⟨hc20, hc21⟩ := HCR.out wr (HKR.out.ext HK4.out HE4.out)
              have HQ2 := Lib.hid hq2
              have HQ3 := Lib.hid hq3
              have HQ1 := Lib.hid hq1
              clear hq1 hq2 hq3
              go_upto_if 91 with (fail)
              go_cut [15] from 84 to 119 (fun want wx => ∃ Aw cw jsw, want = .slice Aw (List.length jsw) cw ∧ RL wx (pa + 3) (.slice Aw jsw.length cw) jsw ∧ jsw.map (·.e) = (if n < 2 then E0 else E1) ∧ KR W4 Wz.heap.size Wz.heap.size Lk Wk its (allI (vs.take n)) wx)
              case first =>
                by_cases hn2 : n < 2
                · obtain ⟨c0, c1, c2, c3, c4, c5, c6⟩ := HCE.out wr (HKR.out.ext HK4.out HE4.out)
                  have hn2i : ((n : Nat) : Int) < 2 := by omega
                  go_wp2_with (go_at_call 11; refine (HRF.out _ (HKR.out.ext HK4.out HE4.out)).mono ?_; rintro e0 w6 ⟨v6, js6, rfl, hrl6, hm6, he6⟩; obtain ⟨_, A6, c6, rfl, hcc6, _⟩ := hrl6.row)
                  go_meet
                  case rel => exact ⟨A6, c6, js6, rfl, hrl6, by rw [if_pos hn2]; exact hm6, HKR.out.after he6⟩
                · have hn2i : ¬ ((n : Nat) : Int) < 2 := by omega
                  go_wp2_with fail
                  go_meet
                  case rel => exact ⟨Aj, cj, js, rfl, HRL.out.ext (HKR.out.ext HK4.out HE4.out), by rw [if_neg hn2]; exact HJS.out, HKR.out⟩
              case rest =>
                obtain ⟨Aw, cw, jsw, rfl, hrlw, hmw, hKRw⟩ := hcut
                have hmem := List.mem_of_getElem? HQ2.out
                have hcl : wc.cell? ⟨w4.heap.size, n, none⟩ = some (.slice Aq isq.length cq) := by
                  rw [(hKRw.var HK1.out HVL.out hs4).cell]; exact HQ1.out
                have HSL := Lib.hid (sameList_ok _ _ isq jsw _ _ wc (hKRw.rl HK1.out HLS.out hmem) hrlw (by rw [HQ3.out, hmw]) (fun i hi => by have := check_ok _ ((HALL.out _ hmem).2 i hi); omega) (by have := (HALL.out _ hmem).1; simp only at this; omega))
                have hKl := hKRw.var HK1.out HVL.out hs4
                have HKW := Lib.hid hKRw
                clear hrlw hmw hKRw
                have hn0 : (0 : Int) ≤ ((n : Nat) : Int) := by omega
                have hn4i : ((n : Nat) : Int) < 4 := by omega
                go_wp2_with (go_at_call 12; refine HSL.out.mono ?_; rintro e0 w7 ⟨rfl, he7⟩)
                have HKA := Lib.hid (HKW.out.after he7)
                clear hcl
                go_loopg [16] isq.length (fun g y wq => ∃ m : Nat, y = .int .i64 m ∧ m + g = isq.length ∧ KR W4 Wz.heap.size Wz.heap.size Lk Wk its (allI (vs.take n) ++ isq.take m) wq)
                case atStart => exact ⟨0, rfl, by omega, by simpa using HKA.out⟩
                case round =>
                  obtain ⟨m, rfl, hmg, hKR⟩ := hrel
                  have hVm := hKR.var HK1.out HVL.out hs4
                  have hclm : wr.cell? ⟨w4.heap.size, n, none⟩ = some (.slice Aq isq.length cq) := by
                    rw [hVm.cell]; exact HQ1.out
                  clear hVm
                  by_cases hmn : m < isq.length
                  · have hrlm := hKR.rl HK1.out HLS.out hmem
                    obtain ⟨a, B1, d1, B2, d2, B3, d3, ek, rfl, hit, hrk, c0, c1, c2, c3, c4, c5, c6⟩ := hrlm.at_ m hmn
                    have hpre := allI_pre vs n m _ _ HQ2.out hit
                    have hck := (HALL.out _ hmem).2 _ (List.mem_of_getElem? hit)
                    have hlq := (HALL.out _ hmem).1
                    have hlt := allI_take_len vs 30 (fun q hq => (HALL.out q hq).1) n
                    obtain ⟨Lv, Wv, new, s1, s2, s3, s4, s5, s6, s7, s8, s9⟩ := hKR.step HK1.out HE5.out hEs HLS.out hpre hck (by simp only at hlq; rw [List.length_append, List.length_take]; omega)
                    have HKE := Lib.hid (KEntry_ok wr Wz.heap.size Wz.heap.size Lv Wv _ _ _ _ ek s1 s2 s3 s4 s5 s6 s7 s8)
                    have HS9 := Lib.hid s9
                    have hitt : isq.take (m + 1) = isq.take m ++ [⟨.slice B1 (List.length ek.row) d1, .slice B2 ek.qual.length d2, .slice B3 ek.value.length d3, ek⟩] := by rw [List.take_add_one, hit]; rfl
                    unfold entCells at HKE
                    clear hKR hrlm hit hrk hpre hck s1 s2 s3 s4 s5 s6 s7 s8 s9
                    have hm0 : (0 : Int) ≤ ((m : Nat) : Int) := by omega
                    have hm1 : ((m : Nat) : Int) < (isq.length : Int) := by omega
                    go_wp2_with (go_at_call 13; refine HKE.out.mono ?_; rintro e0 w8 ⟨rfl, L8, W8, k1, k2, k3, hKO8⟩)
                    go_roundg (gk - 1)
                    case measure => omega
                    case rel => exact ⟨m + 1, by go_num, by omega, by rw [hitt, ← List.append_assoc]; exact HS9.out _ _ _ _ _ _ hKO8⟩
                  · have hml : m = isq.length := by omega
                    subst hml
                    rw [List.take_length, ← allI_take vs n _ HQ2.out] at hKR
                    have HKF := Lib.hid hKR
                    clear hKR
                    go_wp2_with fail
                    go_roundg (gk3 - 1)
                    case measure => omega
                    case rel => exact ⟨n + 1, by go_num, by omega, HKF.out⟩
            · have hn5 : n = 4 := by omega
              subst hn5
              have hEr := HKR.out.ext HK4.out HE4.out
              have hlt := allI_take_len vs 30 (fun q hq => (HALL.out q hq).1) 4
              obtain ⟨Lk', Wk', its', d1, d2, d3⟩ := HKR.out.done HK2.out
              have HD1 := Lib.hid d1
              have HD2 := Lib.hid d2
              clear d1 d2
              go_wp2_with fail
              go_roundg (gk2 - 1)
              case measure => omega
              case rel => exact ⟨k + 1, Lk', Wk', its', by go_num, by omega, HD1.out, HD2.out, by omega, hEr⟩
        · have hk2' : k = 2 := by omega
          subst hk2'
          have hst := Settle_ok wr.drew Wz.heap.size Wz.heap.size Lk Wk its (HK1.out.ext (Ext.refl wr).drew) HK2.out (by omega)
          have hvs : ∀ b, Vs its b → Wz.heap.size ≤ b := fun b ⟨it, hit, hb⟩ => HK1.out.frm it.v (by simp only [pcs, vals, List.mem_cons, List.mem_flatMap]; exact .inr (.inr (.inr ⟨it, hit, by simp⟩))) b hb
          have HST := Lib.hid (hst.mono (R' := fun e0 w' => e0 = .returned (.bool true) ∧ Ext Wz w' ∧ ∀ W', Ext w' W' → Calls Try.prog 15 #[.pointer (some ⟨Wz.heap.size, 0, none⟩)] W' fun e w2 => e = .returned (.bool true) ∧ Ext W' w2) (by
            rintro e0 w' ⟨rfl, hf', its', hL', hM'⟩
            refine ⟨rfl, Fr.toExt hE.drew hf' hvs, fun W' h => Settled_ok W' Wz.heap.size Wz.heap.size its'.length Lk Wk its' (hL'.fr (Fr.ext h fun _ => False) fun z hz b hb hs => hs) hM'.full (by have := hM'.len; omega)⟩))
          have hcc2 : ∀ W', Ext Wz W' → W'.cell? ⟨w.heap.size, 0, none⟩ = some r ∧ W'.cell? ⟨w.heap.size, 1, none⟩ = some (.int .i64 e.fam) ∧ W'.cell? ⟨w.heap.size, 2, none⟩ = some q ∧ W'.cell? ⟨w.heap.size, 3, none⟩ = some (.int .i64 e.ts) ∧ W'.cell? ⟨w.heap.size, 4, none⟩ = some (.int .i64 e.seq) ∧ W'.cell? ⟨w.heap.size, 5, none⟩ = some (.int .i64 e.kind) ∧ W'.cell? ⟨w.heap.size, 6, none⟩ = some x ∧ W'.cell? ⟨pa + 1 + 1, 0, none⟩ = some (.slice Aj js.length cj) ∧ W'.cell? ⟨pa + 1 + 1, 1, none⟩ = some (.bool false) := by
            intro W' h
            obtain ⟨c0, c1, c2, c3, c4, c5, c6⟩ := HCE.out W' h
            obtain ⟨c7, c8⟩ := HCR.out W' h
            exact ⟨c0, c1, c2, c3, c4, c5, c6, c7, c8⟩
          have HCC := Lib.hid hcc2
          have hsl : ∀ W' v u is js' N1 N2 E, RL W' N1 v is → RL W' N2 u js' → is.map (·.e) = E → js'.map (·.e) = E → (E = E0 ∨ E = E1) → Calls Try.prog 12 #[v, u] W' fun e0 w' => e0 = .returned (.bool true) ∧ Ext W' w' := by
            intro W' v u is js' N1 N2 E h1 h2 h3 h4 h5
            have hE5 : E.length ≤ 30 ∧ ∀ y ∈ E, checkL y = 0 := by
              rcases h5 with rfl | rfl
              · exact ⟨hlen0, hok0⟩
              · exact ⟨hlen1, hok1⟩
            refine sameList_ok v u is js' N1 N2 W' h1 h2 (h3.trans h4.symm) (fun i hi => ?_) (by have := congrArg List.length h3; simp at this; omega)
            have := check_ok _ (hE5.2 i.e (by rw [← h3]; exact List.mem_map_of_mem hi))
            omega
          have HSL := Lib.hid hsl
          clear hst hvs HK1 HK2 hcc2 hsl HCE HCR
          go_wp2_with fail
          go_region_held3 (fun W' => W'.cell? ⟨w.heap.size, 0, none⟩ = some r ∧ W'.cell? ⟨w.heap.size, 1, none⟩ = some (.int .i64 e.fam) ∧ W'.cell? ⟨w.heap.size, 2, none⟩ = some q ∧ W'.cell? ⟨w.heap.size, 3, none⟩ = some (.int .i64 e.ts) ∧ W'.cell? ⟨w.heap.size, 4, none⟩ = some (.int .i64 e.seq) ∧ W'.cell? ⟨w.heap.size, 5, none⟩ = some (.int .i64 e.kind) ∧ W'.cell? ⟨w.heap.size, 6, none⟩ = some x ∧ W'.cell? ⟨pa + 1 + 1, 0, none⟩ = some (.slice Aj js.length cj) ∧ W'.cell? ⟨pa + 1 + 1, 1, none⟩ = some (.bool false))
            ((refine HCC.out _ ?_; repeat (first | exact e1 | exact hE.drew | refine Ext.trans ?_ q9 | refine Ext.trans ?_ q8 | refine Ext.trans ?_ q7 | refine Ext.trans ?_ hl6.ext | refine Ext.trans ?_ q5 | refine Ext.trans ?_ hl4.ext | refine Ext.trans ?_ q3 | refine Ext.trans ?_ hl2.ext)))
            (first
              | (go_at_call 14; refine HST.out.mono ?_; rintro e0 w1 ⟨rfl, e1, hsd⟩)
              | (go_at_call 10; have hx := q3; (with_reducible refine (HRO.out _ (pa + 1) HTb.out ((e1.trans hl2.ext).trans q3)).mono ?_); rintro e0 w4 ⟨v4, is4, rfl, hl4, hm4⟩)
              | (go_at_call 10; (with_reducible refine (HRO.out _ pa HTa.out e1).mono ?_); rintro e0 w2 ⟨v2, is2, rfl, hl2, hm2⟩)
              | (go_at_call 12; have hx := q7; (with_reducible refine (HSL.out _ _ _ _ _ _ _ _ (hl6.rl.ext q7) hrl7 hm6 hm7 (.inl rfl)).mono ?_); rintro e0 w8 ⟨rfl, q8⟩)
              | (go_at_call 12; have hx := hl4; (with_reducible refine (HSL.out _ _ _ _ _ _ _ _ hl4.rl (HRL.out.ext (((e1.trans hl2.ext).trans q3).trans hl4.ext)) hm4 HJS.out (.inr rfl)).mono ?_); rintro e0 w5 ⟨rfl, q5⟩)
              | (go_at_call 12; (with_reducible refine (HSL.out _ _ _ _ _ _ _ _ hl2.rl (HRL.out.ext (e1.trans hl2.ext)) hm2 HJS.out (.inr rfl)).mono ?_); rintro e0 w3 ⟨rfl, q3⟩)
              | (go_at_call 9; refine (HFR.out _ pa HTa.out ((((e1.trans hl2.ext).trans q3).trans hl4.ext).trans q5)).mono ?_; rintro e0 w6 ⟨v6, is6, rfl, hl6, hm6⟩)
              | (go_at_call 11; refine (HRF.out _ (((((e1.trans hl2.ext).trans q3).trans hl4.ext).trans q5).trans hl6.ext)).mono ?_; rintro e0 w7 ⟨v7, js7, rfl, hrl7, hm7, q7⟩)
              | (go_at_call 15; refine (hsd _ ((((((hl2.ext.trans q3).trans hl4.ext).trans q5).trans hl6.ext).trans q7).trans q8)).mono ?_; rintro e0 w9 ⟨rfl, q9⟩))
          go_wp2
          go_ret
          exact ⟨rfl, hEw.trans ((((((((e1.trans hl2.ext).trans q3).trans hl4.ext).trans q5).trans hl6.ext).trans q7).trans q8).trans q9)⟩
end Go.Proofs.Ytckhefkedkipeaa

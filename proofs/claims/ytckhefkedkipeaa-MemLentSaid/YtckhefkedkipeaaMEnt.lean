/- Layer 8's small helpers: the same bytes, copies, entries laid in new memory. -/
import Derived.Test.YtckhefkedkipeaaMRef2
namespace Go.Proofs.Ytckhefkedkipeaa
open Go.RowKit

set_option maxHeartbeats 400000 in
theorem rcopied_ok (v : Value) (l : List Int) (w : World) (hv : RdB w v l) (hl : l.length ≤ 140737488355328) : Calls Try.prog 24 #[v] w (OutB w l) := by
  go_enter Try.func24, Try.ntmps24
  go_wp2_with (at_builtin; refine appB rfl (.tmp 4) (.tmp 5) rfl rfl rfl (OwB.nil _) hv (by simp; omega) ?_; intro v' w1 ho hg hat)
  go_ret
  exact ⟨_, rfl, ho, From.app (From.nil _ _ _) hat (Nat.le_refl _), (Ext.refl _).grown hg (From.nil _ _ _)⟩
set_option maxHeartbeats 400000 in
theorem same8_ok (v u : Value) (l : List Int) (w : World) (hv : RdB w v l) (hu : RdB w u l) (hl : l.length ≤ 140737488355328) :
    Calls Try.prog 34 #[v, u] w fun e w' => e = .returned (.bool true) ∧ ∃ m, w' = w.drewN m := by
  obtain ⟨A, c, rfl, hc⟩ := hv.shape
  obtain ⟨B, d, rfl, hd⟩ := hu.shape
  have hcV : ∀ (k : Nat), k < l.length → ∃ a b, A = some a ∧ B = some b ∧ w.cell? (a.add k) = some (.int .u8 (gt l k)) ∧ w.cell? (b.add k) = some (.int .u8 (gt l k)) := by
    intro k hk
    obtain ⟨a, ha, h1⟩ := hv.at_ k hk
    obtain ⟨b, hb, h2⟩ := hu.at_ k hk
    exact ⟨a, b, ha, hb, h1, h2⟩
  have HC := Lib.hid hcV
  clear hcV hv hu
  go_enter Try.func34, Try.ntmps34
  go_wp2
  go_loopw [5] (fun x wr => (Ext w wr ∧ ∃ m, wr = w.drewN m) ∧ ∃ k : Nat, k ≤ l.length ∧ x = .int .i64 k) (fun x _ => l.length - (intOf x).toNat)
  case atStart => exact ⟨⟨Ext.refl _, 0, rfl⟩, 0, by omega, rfl⟩
  case round =>
    obtain ⟨⟨he, m, hm⟩, k, hk, rfl⟩ := hrel
    have HM := Lib.hid hm
    clear hm
    by_cases hlt : k < l.length
    · obtain ⟨a, b, rfl, rfl, h1', h2'⟩ := HC.out k hlt
      have h1 := he.cell h1'
      have h2 := he.cell h2'
      clear h1' h2'
      generalize gt l k = g at *
      go_wp2_with fail
      go_quiet (fail)
      go_wp2
      go_roundw
      case rel => exact ⟨⟨he.drewN _, _, by rw [HM.out]; simp only [World.drewN_drewN]; exact rfl⟩, k + 1, by omega, by go_num⟩
      case measure => simp [intOf]; omega
    · have hkl2 : l.length ≤ k := by omega
      go_wp2
      go_ret
      exact ⟨rfl, m, HM.out⟩

set_option maxHeartbeats 1000000 in
theorem laid8_ok (v : Value) (l : List Int) (w : World) (hv : RdB w v l) (hl : l.length ≤ 140737488351232) : Calls Try.prog 25 #[v] w (OutB w (l.take 5000)) := by
  obtain ⟨m, hm⟩ : ∃ m, m = l.take 5000 := ⟨_, rfl⟩
  have hml : m.length ≤ 5000 := by rw [hm]; simp; omega
  have hcut : ∃ v', RdB w v' m ∧ (5000 < l.length → (Instr.sliceAt 23 v none (some (.int .i64 5000)) none).run Try.prog w = .ok v' w) ∧ (¬ 5000 < l.length → v' = v) := by
    by_cases h : 5000 < l.length
    · obtain ⟨v', h1, h2⟩ := run_sliceB w hv none (some (.int .i64 5000)) 0 5000 (.inl ⟨rfl, rfl⟩) (.inr ⟨.i64, rfl⟩) (by omega) (by omega) (by omega)
      exact ⟨v', by rw [hm]; simpa using h2, fun _ => h1, fun h' => absurd h h'⟩
    · exact ⟨v, by rw [hm, List.take_of_length_le (by omega)]; exact hv, fun h' => absurd h' h, fun _ => rfl⟩
  obtain ⟨v', hv', hs1, hs2⟩ := hcut
  rw [← hm]
  obtain ⟨A, c, rfl, hc⟩ := hv.shape
  have hwalk : ∀ (n : Nat), n = m.length → n ≤ 5000 := by intro n hn; omega
  clear hwalk
  by_cases h : 5000 < l.length
  focus
    have hsl := hs1 h
    obtain ⟨A', c', rfl, hc'⟩ := hv'.shape
    have HC := Lib.hid hv'
    clear hs1 hs2 hm hv hv'
    go_enter Try.func25, Try.ntmps25
    go_wp2_with (first
      | (at_builtin; refine appB rfl (.tmp 10) (.tmp 11) rfl rfl rfl (OwB.nil _) HC.out (by simp; omega) ?_; intro b1 w1 ho1 hg1 hat1; have hf1 := From.app (From.nil w.heap.size 0 0) hat1 (Nat.le_refl _); have he1 := (Ext.refl _).grown hg1 (From.nil w.heap.size 0 0))
      | (at_builtin; refine appB rfl (.tmp 13) (.tmp 14) rfl rfl rfl (ho1.alloc _) (RdB.lit w1 [_, _, _, _, _]) (by simp; omega) ?_; intro b2 w2 ho2 hg2 hat2; have he2 := ((he1.alloc _).grown hg2 hf1); have hf2 := From.app hf1 hat2 (he1.alloc _).size))
  rotate_left
  focus
    have hml' : m = l := by rw [hm, List.take_of_length_le (by omega)]
    clear hm hs1 hs2 hv'
    subst hml'
    have HC := Lib.hid hv
    clear hv
    go_enter Try.func25, Try.ntmps25
    go_wp2_with (first
      | (at_builtin; refine appB rfl (.tmp 10) (.tmp 11) rfl rfl rfl (OwB.nil _) HC.out (by simp; omega) ?_; intro b1 w1 ho1 hg1 hat1; have hf1 := From.app (From.nil w.heap.size 0 0) hat1 (Nat.le_refl _); have he1 := (Ext.refl _).grown hg1 (From.nil w.heap.size 0 0))
      | (at_builtin; refine appB rfl (.tmp 13) (.tmp 14) rfl rfl rfl (ho1.alloc _) (RdB.lit w1 [_, _, _, _, _]) (by simp; omega) ?_; intro b2 w2 ho2 hg2 hat2; have he2 := ((he1.alloc _).grown hg2 hf1); have hf2 := From.app hf1 hat2 (he1.alloc _).size))
  all_goals
    clear hg2 hat2 ho1 hf1 hg1 hat1
    go_loopw [3, 4] (fun b x wr => ∃ (k : Nat) (T : List Int), k ≤ 70 ∧ T.length = 5 + k ∧ x = .int .i64 k ∧ OwB wr b (m ++ T) ∧ From w.heap.size b ∧ Ext w wr) (fun _ x _ => (70 - intOf x).toNat)
    case atStart => exact ⟨0, _, by omega, by simp, rfl, ho2, hf2, he2⟩
    case round =>
      obtain ⟨k, T, hk, hT, rfl, ho, hf, he⟩ := hrel
      by_cases hlt : k < 70
      · go_wp2_with (at_builtin; refine appB rfl (.tmp 20) (.tmp 21) rfl rfl rfl (ho.alloc _) (RdB.lit wr [_]) (by simp; omega) ?_; intro b3 w3 ho3 hg3 hat3; have he3 := ((he.alloc _).grown hg3 hf); have hf3 := From.app hf hat3 (he.alloc _).size)
        go_roundw
        case rel => exact ⟨k + 1, T ++ [206], by omega, by simp; omega, by go_num, by rw [← List.append_assoc]; exact ho3, hf3, he3⟩
        case measure => simp [intOf]; omega
      · have hkl2 : 70 ≤ k := by omega
        obtain ⟨A1, c1, rfl, hc1⟩ := ho.rd.shape
        have ho4 := ho.cut m.length (by simp)
        rw [List.take_left] at ho4
        have HO := Lib.hid ho4
        have HF := Lib.hid hf
        have hmc : m.length ≤ c1 := by rw [List.length_append] at hc1; omega
        clear ho4 hk ho hf
        go_wp2
        go_ret
        exact ⟨_, rfl, HO.out, HF.out.cut _, he⟩

set_option maxHeartbeats 1000000 in
set_option maxRecDepth 100000 in
theorem entry8_ok (r q x : Value) (e : Ent) (w : World) (hr : RdE w r q x e) (hf : e.Fits) : Calls Try.prog 7 #[.agg (entCells r q x e)] w (OutE w e.cut) := by
  have f1 := hf.row
  have f2 := hf.qual
  have f3 := hf.value
  have L1 := fun (W : World) (he : Ext w W) => laid8_ok r e.row W (hr.row.ext he) f1
  have L2 := fun (W : World) (he : Ext w W) => laid8_ok q e.qual W (hr.qual.ext he) f2
  have L3 := fun (W : World) (he : Ext w W) => laid8_ok x e.value W (hr.value.ext he) f3
  show Calls _ _ _ _ (OutE w ⟨e.row.take 5000, e.fam, e.qual.take 5000, e.ts, e.seq, e.kind, e.value.take 5000⟩)
  have g1 : (e.row.take 5000).length ≤ 5000 := by simp; omega
  have g2 : (e.qual.take 5000).length ≤ 5000 := by simp; omega
  have g3 : (e.value.take 5000).length ≤ 5000 := by simp; omega
  generalize e.row.take 5000 = m1 at *
  generalize e.qual.take 5000 = m2 at *
  generalize e.value.take 5000 = m3 at *
  have HL1 := Lib.hid L1
  have HL2 := Lib.hid L2
  have HL3 := Lib.hid L3
  clear L1 L2 L3
  obtain ⟨A1, c1, rfl, h1⟩ := hr.row.shape
  obtain ⟨A2, c2, rfl, h2⟩ := hr.qual.shape
  obtain ⟨A3, c3, rfl, h3⟩ := hr.value.shape
  clear hr hf
  unfold entCells
  have hV := Var.new w #[.slice A1 e.row.length c1, .int .i64 e.fam, .slice A2 e.qual.length c2, .int .i64 e.ts, .int .i64 e.seq, .int .i64 e.kind, .slice A3 e.value.length c3] 25
  have hW : Ext w (w.alloc (.cells #[.slice A1 e.row.length c1, .int .i64 e.fam, .slice A2 e.qual.length c2, .int .i64 e.ts, .int .i64 e.seq, .int .i64 e.kind, .slice A3 e.value.length c3] 25)) := (Ext.refl _).alloc _
  generalize hWg : w.alloc (.cells #[.slice A1 e.row.length c1, .int .i64 e.fam, .slice A2 e.qual.length c2, .int .i64 e.ts, .int .i64 e.seq, .int .i64 e.kind, .slice A3 e.value.length c3] 25) = W at *
  have hlt := hV.lt
  have hlt' := hlt
  have hV2 := Var.new W #[.slice none 0 0, .int .i64 0, .slice none 0 0, .int .i64 0, .int .i64 0, .int .i64 0, .slice none 0 0] 25
  have hVa := hV.alloc (.cells #[.slice none 0 0, .int .i64 0, .slice none 0 0, .int .i64 0, .int .i64 0, .int .i64 0, .slice none 0 0] 25)
  have hE := hW.alloc (.cells #[.slice none 0 0, .int .i64 0, .slice none 0 0, .int .i64 0, .int .i64 0, .int .i64 0, .slice none 0 0] 25)
  generalize hWh : W.alloc (.cells #[.slice none 0 0, .int .i64 0, .slice none 0 0, .int .i64 0, .int .i64 0, .int .i64 0, .slice none 0 0] 25) = X at *
  have hb1 : w.heap.size < X.heap.size := hVa.lt
  have hb2 : W.heap.size < X.heap.size := hV2.lt
  have hne : w.heap.size ≠ W.heap.size := by omega
  clear hV hW
  have hca := hVa.cell
  go_enter Try.func7, Try.ntmps7
  go_wp2_with fail
  clear hWg hWh
  refine (HL1.out _ hE).mono ?_
  rintro e0 w1 ⟨v1, rfl, ho1, hf1, he1⟩
  obtain ⟨B1, d1, rfl, _⟩ := ho1.rd.shape
  clear hca
  have hca := (hVa.ext he1).cell
  have hza := (hVa.ext he1).frozen
  obtain ⟨x1, hx1⟩ : ∃ x1, w1.setCell ⟨w.heap.size, 0, none⟩ (.slice B1 m1.length d1) = x1 := ⟨_, rfl⟩
  have hA1 := (hVa.ext he1).set 0 (.slice B1 m1.length d1)
  have hB1 := (hV2.ext he1).set_other (b' := w.heap.size) (Ne.symm hne) 0 (.slice B1 m1.length d1)
  have hE1 := (hE.trans he1).setCell (p := ⟨w.heap.size, 0, none⟩) (Nat.le_refl _) (.slice B1 m1.length d1)
  have hO1 := Ow.set_var ho1 (hf1.ne hb1) 0 (.slice B1 m1.length d1)
  have hs1 : X.heap.size ≤ x1.heap.size := by have := he1.size; rw [← hx1]; simpa using this
  rw [hx1] at hA1 hB1 hE1 hO1
  have hcb := hA1.cell
  go_wp2_with fail
  refine (HL2.out _ hE1).mono ?_
  rintro e0 w2 ⟨v2, rfl, ho2, hf2, he2⟩
  obtain ⟨B2, d2, rfl, _⟩ := ho2.rd.shape
  clear hca hcb hza hx1
  have hca := (hA1.ext he2).cell
  have hza := (hA1.ext he2).frozen
  obtain ⟨x2, hx2⟩ : ∃ x2, w2.setCell ⟨w.heap.size, 2, none⟩ (.slice B2 m2.length d2) = x2 := ⟨_, rfl⟩
  have hbx : w.heap.size < x1.heap.size := hA1.lt
  have hA2 := (hA1.ext he2).set 2 (.slice B2 m2.length d2)
  have hB2 := (hB1.ext he2).set_other (b' := w.heap.size) (Ne.symm hne) 2 (.slice B2 m2.length d2)
  have hE2 := (hE1.trans he2).setCell (p := ⟨w.heap.size, 2, none⟩) (Nat.le_refl _) (.slice B2 m2.length d2)
  have hO2 := Ow.set_var ho2 (hf2.ne hbx) 2 (.slice B2 m2.length d2)
  have hO1b := Ow.set_var (Ow.ext hO1 he2) (hf1.ne hb1) 2 (.slice B2 m2.length d2)
  have hS12 := Ow.sep hO1 hf2
  have hs2 : x1.heap.size ≤ x2.heap.size := by have := he2.size; rw [← hx2]; simpa using this
  rw [hx2] at hA2 hB2 hE2 hO2 hO1b
  have hcb := hA2.cell
  go_wp2_with fail
  refine (HL3.out _ hE2).mono ?_
  rintro e0 w3 ⟨v3, rfl, ho3, hf3, he3⟩
  obtain ⟨B3, d3, rfl, _⟩ := ho3.rd.shape
  clear hca hcb hza hx2
  have hca := (hA2.ext he3).cell
  have hza := (hA2.ext he3).frozen
  obtain ⟨x3, hx3⟩ : ∃ x3, w3.setCell ⟨w.heap.size, 6, none⟩ (.slice B3 m3.length d3) = x3 := ⟨_, rfl⟩
  have hby : w.heap.size < x2.heap.size := hA2.lt
  have hA3 := (hA2.ext he3).set 6 (.slice B3 m3.length d3)
  have hB3 := (hB2.ext he3).set_other (b' := w.heap.size) (Ne.symm hne) 6 (.slice B3 m3.length d3)
  have hE3 := (hE2.trans he3).setCell (p := ⟨w.heap.size, 6, none⟩) (Nat.le_refl _) (.slice B3 m3.length d3)
  have hO3 := Ow.set_var ho3 (hf3.ne hby) 6 (.slice B3 m3.length d3)
  have hO1c := Ow.set_var (Ow.ext hO1b he3) (hf1.ne hb1) 6 (.slice B3 m3.length d3)
  have hO2c := Ow.set_var (Ow.ext hO2 he3) (hf2.ne hbx) 6 (.slice B3 m3.length d3)
  have hS13 := Ow.sep hO1b hf3
  have hS23 := Ow.sep hO2 hf3
  rw [hx3] at hA3 hB3 hE3 hO3 hO1c hO2c
  have hcb := hA3.cell
  have hcc := hB3.cell
  have hzc := hB3.frozen
  obtain ⟨x9, hx9, hV9, hg9⟩ := store7 hB3 rfl (.slice B1 m1.length d1) (.int .i64 e.fam) (.slice B2 m2.length d2) (.int .i64 e.ts) (.int .i64 e.seq) (.int .i64 e.kind) (.slice B3 m3.length d3)
  have hc9 := hV9.cell
  go_wp2
  have hXs : w.heap.size ≤ X.heap.size := hE.size
  have hF1 : From w.heap.size (.slice B1 m1.length d1) := hf1.mono hXs
  have hF2 : From w.heap.size (.slice B2 m2.length d2) := hf2.mono hE1.size
  have hF3 : From w.heap.size (.slice B3 m3.length d3) := hf3.mono hE2.size
  have hoe : OwE x9 (.slice B1 m1.length d1) (.slice B2 m2.length d2) (.slice B3 m3.length d3) ⟨m1, e.fam, m2, e.ts, e.seq, e.kind, m3⟩ :=
    OwE.put (n := X.heap.size) ⟨hO1c, hO2c, hO3, hS12, hS13, hS23⟩ ⟨hf1, hf2.mono hs1, hf3.mono (Nat.le_trans hs1 hs2)⟩ hg9 hb2
  exact bodyPost_ret (v := .agg (entCells (.slice B1 m1.length d1) (.slice B2 m2.length d2) (.slice B3 m3.length d3) ⟨m1, e.fam, m2, e.ts, e.seq, e.kind, m3⟩)) (by simp [results, Try.results7, go_sem, entCells, hc9]) rfl ⟨_, _, _, rfl, hoe, ⟨hF1, hF2, hF3⟩, hE3.put hg9 (Nat.le_of_lt hlt')⟩
end Go.Proofs.Ytckhefkedkipeaa

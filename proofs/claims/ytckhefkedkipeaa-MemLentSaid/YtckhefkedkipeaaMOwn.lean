/- Package mem: copies of byte strings and of entries. -/
import Derived.Test.YtckhefkedkipeaaMEnt
import Derived.Deep.RegionWith
import Derived.Deep.Cut
import Derived.Deep.CutRange
namespace Go.Proofs.Ytckhefkedkipeaa
open Go.RowKit

theorem OwB.clip {W : World} {A : Option Addr} {n c : Nat} {l : List Int} (hv : OwB W (.slice A n c) l) : OwB W (.slice A n n) l := by
  rcases hv.2 with ⟨hs, h0⟩ | ⟨g, cap, cur, hs, hg, hn, hcm, hcs, ht⟩
  · cases hs
    exact hv
  · cases hs
    exact ⟨hv.1, .inr ⟨g, l.length, cur, rfl, hg, Nat.le_refl _, by omega, by omega, ht⟩⟩
theorem Var.cast {w : World} {b T : Nat} {cs ds : Array Value} (h : Var w b T cs) (e : cs = ds) : Var w b T ds := e ▸ h
theorem clip_run (W : World) (A : Option Addr) (n c : Nat) (hn : n ≤ c) : (Instr.sliceAt 23 (.slice A n c) none (some (.int .i64 (n : Int))) (some (.int .i64 (n : Int)))).run Try.prog W = .ok (.slice A n n) W := by
  obtain ⟨i, hi', _⟩ := Option.map_eq_some_iff.1 infoB
  simp [Instr.sliceAt, Instr.slice, run_underlying Try.underlying23, Instr.sliceBounds, Instr.sliceBound, asIntOf, sizeOf, typeInfo, hi', hn]
  intro _
  cases A <;> simp [Addr.add]
set_option maxHeartbeats 400000 in
theorem Clip_ok (A : Option Addr) (n c : Nat) (w : World) (hn : n ≤ c) : Calls Try.prog 67 #[.slice A n c] w fun e w' => e = .returned (.slice A n n) ∧ w' = w := by
  have hs := clip_run w A n c hn
  go_enter Try.func67, Try.ntmps67
  go_wp2
  go_ret
  exact ⟨rfl, rfl⟩
set_option maxHeartbeats 400000 in
theorem mcopied_ok (v : Value) (l : List Int) (w : World) (hv : RdB w v l) (hl : l.length ≤ 140737488355328) : Calls Try.prog 43 #[v] w (OutB w l) := by
  go_enter Try.func43, Try.ntmps43
  go_wp2_with (at_builtin; refine appB rfl (.const (.slice none 0 0)) (.tmp 3) rfl rfl rfl (OwB.nil _) hv (by simp; omega) ?_; intro v' w1 ho hg hat)
  have hf := From.app (From.nil w.heap.size 0 0) hat (Nat.le_refl _)
  have he := (Ext.refl w).grown hg (From.nil w.heap.size 0 0)
  obtain ⟨A, c, rfl, hc⟩ := ho.rd.shape
  have hc' : ([] ++ l : List Int).length ≤ c := hc
  have HC := Lib.hid (Clip_ok A ([] ++ l : List Int).length c w1 hc')
  go_wp2_with (go_at_call 67; refine HC.out.mono ?_; rintro e0 w2 ⟨rfl, rfl⟩)
  go_ret
  exact ⟨_, rfl, ho.clip, fun k hk => hf k (by cases A with | none => simp [Value.ownBlock] at hk | some a => simpa [Value.ownBlock] using hk), he⟩

set_option maxHeartbeats 2000000 in
set_option maxRecDepth 100000 in
theorem own_ok (r q x : Value) (e : Ent) (w : World) (hr : RdE w r q x e) (f1 : e.row.length ≤ 140737488351232) (f2 : e.qual.length ≤ 140737488351232) (f3 : e.value.length ≤ 140737488351232) : Calls Try.prog 28 #[.agg (entCells r q x e)] w (OutE w e) := by
  have L1 := fun (W : World) (he : Ext w W) => mcopied_ok r e.row W (hr.row.ext he) (by omega)
  have L2 := fun (W : World) (he : Ext w W) => mcopied_ok q e.qual W (hr.qual.ext he) (by omega)
  have L3 := fun (W : World) (he : Ext w W) => mcopied_ok x e.value W (hr.value.ext he) (by omega)
  have HL1 := Lib.hid L1
  have HL2 := Lib.hid L2
  have HL3 := Lib.hid L3
  clear L1 L2 L3 hr
  unfold entCells
  have hV := Var.new w #[r, .int .i64 e.fam, q, .int .i64 e.ts, .int .i64 e.seq, .int .i64 e.kind, x] 25
  have hW : Ext w (w.alloc (.cells #[r, .int .i64 e.fam, q, .int .i64 e.ts, .int .i64 e.seq, .int .i64 e.kind, x] 25)) := (Ext.refl _).alloc _
  generalize hWg : w.alloc (.cells #[r, .int .i64 e.fam, q, .int .i64 e.ts, .int .i64 e.seq, .int .i64 e.kind, x] 25) = W at *
  have hlt := hV.lt
  have hV2 := Var.new W #[.slice none 0 0, .int .i64 0, .slice none 0 0, .int .i64 0, .int .i64 0, .int .i64 0, .slice none 0 0] 25
  have hVa := hV.alloc (.cells #[.slice none 0 0, .int .i64 0, .slice none 0 0, .int .i64 0, .int .i64 0, .int .i64 0, .slice none 0 0] 25)
  have hE := hW.alloc (.cells #[.slice none 0 0, .int .i64 0, .slice none 0 0, .int .i64 0, .int .i64 0, .int .i64 0, .slice none 0 0] 25)
  generalize hWh : W.alloc (.cells #[.slice none 0 0, .int .i64 0, .slice none 0 0, .int .i64 0, .int .i64 0, .int .i64 0, .slice none 0 0] 25) = X at *
  have hb1 : w.heap.size < X.heap.size := hVa.lt
  have hb2 : W.heap.size < X.heap.size := hV2.lt
  have hne : w.heap.size ≠ W.heap.size := by omega
  clear hV hW
  go_enter Try.func28, Try.ntmps28
  go_wp2_with fail
  clear hWg hWh
  go_upto_region 1 with (fail)
  go_cut [3] from 4 to 14 (fun _ wx => ∃ B1 d1 B2 d2 B3 d3, Var wx w.heap.size 25 #[.slice B1 e.row.length d1, .int .i64 e.fam, .slice B2 e.qual.length d2, .int .i64 e.ts, .int .i64 e.seq, .int .i64 e.kind, .slice B3 e.value.length d3] ∧ Var wx W.heap.size 25 #[.slice none 0 0, .int .i64 0, .slice none 0 0, .int .i64 0, .int .i64 0, .int .i64 0, .slice none 0 0] ∧
      OwE wx (.slice B1 e.row.length d1) (.slice B2 e.qual.length d2) (.slice B3 e.value.length d3) e ∧ FromE X.heap.size (.slice B1 e.row.length d1) (.slice B2 e.qual.length d2) (.slice B3 e.value.length d3) ∧ Ext w wx)
  case first =>
    have hX : Ext X X.drew := (Ext.refl X).drew
    have hca := (hVa.ext hX).cell
    have hza := (hVa.ext hX).frozen
    go_region_with (first
      | (go_at_call 43; (with_reducible refine (HL1.out _ (hE.trans hX)).mono ?_); rintro e0 w1 ⟨v1, rfl, ho1, hf1, he1⟩; obtain ⟨B1, d1, rfl, -⟩ := ho1.rd.shape; (try have hS12 := Sep.symm (Ow.sep ho2 hf1)); (try have hS13 := Sep.symm (Ow.sep ho3 hf1)); (try have ho2 := OwB.ext ho2 he1); (try have ho3 := OwB.ext ho3 he1); have hf1 := hf1.mono hX.size; have hX := hX.trans he1; have hca := (hVa.ext hX).cell; have hza := (hVa.ext hX).frozen)
      | (go_at_call 43; (with_reducible refine (HL2.out _ (hE.trans hX)).mono ?_); rintro e0 w2 ⟨v2, rfl, ho2, hf2, he2⟩; obtain ⟨B2, d2, rfl, -⟩ := ho2.rd.shape; (try have hS12 := Ow.sep ho1 hf2); (try have hS23 := Sep.symm (Ow.sep ho3 hf2)); (try have ho1 := OwB.ext ho1 he2); (try have ho3 := OwB.ext ho3 he2); have hf2 := hf2.mono hX.size; have hX := hX.trans he2; have hca := (hVa.ext hX).cell; have hza := (hVa.ext hX).frozen)
      | (go_at_call 43; (with_reducible refine (HL3.out _ (hE.trans hX)).mono ?_); rintro e0 w3 ⟨v3, rfl, ho3, hf3, he3⟩; obtain ⟨B3, d3, rfl, -⟩ := ho3.rd.shape; (try have hS13 := Ow.sep ho1 hf3); (try have hS23 := Ow.sep ho2 hf3); (try have ho1 := OwB.ext ho1 he3); (try have ho2 := OwB.ext ho2 he3); have hf3 := hf3.mono hX.size; have hX := hX.trans he3; have hca := (hVa.ext hX).cell; have hza := (hVa.ext hX).frozen))
    all_goals
      go_wp2_with fail
      go_meet
      case rel =>
        have hv := hVa.ext hX
        have hn1 := hf1.ne hb1
        have hn2 := hf2.ne hb1
        have hn3 := hf3.ne hb1
        refine ⟨B1, d1, B2, d2, B3, d3, ?_, ?_, ⟨?_, ?_, ?_, hS12, hS13, hS23⟩, ⟨hf1, hf2, hf3⟩, ?_⟩
        · exact Var.cast (((hv.set _ _).set _ _).set _ _) rfl
        · exact (((hV2.ext hX).set_other (Ne.symm hne) _ _).set_other (Ne.symm hne) _ _).set_other (Ne.symm hne) _ _
        · exact Ow.set_var (Ow.set_var (Ow.set_var ho1 hn1 _ _) hn1 _ _) hn1 _ _
        · exact Ow.set_var (Ow.set_var (Ow.set_var ho2 hn2 _ _) hn2 _ _) hn2 _ _
        · exact Ow.set_var (Ow.set_var (Ow.set_var ho3 hn3 _ _) hn3 _ _) hn3 _ _
        · exact (((hE.trans hX).setCell (p := ⟨w.heap.size, _, none⟩) (Nat.le_refl _) _).setCell (p := ⟨w.heap.size, _, none⟩) (Nat.le_refl _) _).setCell (p := ⟨w.heap.size, _, none⟩) (Nat.le_refl _) _
  case rest =>
    obtain ⟨B1, d1, B2, d2, B3, d3, hA, hB, hO, hF, hEw⟩ := hcut
    have hca := hA.cell
    have hcb := hB.cell
    have hzb := hB.frozen
    obtain ⟨x9, hx9, hV9, hg9⟩ := store7 hB rfl (.slice B1 e.row.length d1) (.int .i64 e.fam) (.slice B2 e.qual.length d2) (.int .i64 e.ts) (.int .i64 e.seq) (.int .i64 e.kind) (.slice B3 e.value.length d3)
    have hc9 := hV9.cell
    go_wp2
    have hXs : w.heap.size ≤ X.heap.size := hE.size
    have hoe : OwE x9 (.slice B1 e.row.length d1) (.slice B2 e.qual.length d2) (.slice B3 e.value.length d3) e := OwE.put (n := X.heap.size) hO hF hg9 hb2
    exact bodyPost_ret (v := .agg (entCells (.slice B1 e.row.length d1) (.slice B2 e.qual.length d2) (.slice B3 e.value.length d3) e)) (by simp [results, Try.results28, go_sem, entCells, hc9]) rfl ⟨_, _, _, rfl, hoe, ⟨hF.1.mono hXs, hF.2.1.mono hXs, hF.2.2.mono hXs⟩, hEw.put hg9 (Nat.le_of_lt hlt)⟩
end Go.Proofs.Ytckhefkedkipeaa

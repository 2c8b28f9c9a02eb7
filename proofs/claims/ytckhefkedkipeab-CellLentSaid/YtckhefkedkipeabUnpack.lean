/- Package cell: packed entries, read. -/
import Derived.Test.YtckhefkedkipeabParseKey
namespace Go.Proofs.Ytckhefkedkipeab
open Go.RowKit

theorem readBytes_len (l : List Int) (i most : Int) : (readBytesL l i most).1.length ≤ l.length := by
  unfold readBytesL
  dsimp only
  repeat' split
  all_goals simp
  omega
def withValue (e : Ent) (v : List Int) : Ent := ⟨e.row, e.fam, e.qual, e.ts, e.seq, e.kind, v⟩
/-- An entry out of packed bytes, the place behind it, the fault. -/
def unpackL (l : List Int) (i : Int) : Ent × Int × Int :=
  let r := readBytesL l i 1048
  if r.2.2 ≠ 0 then (Ent.zero, 0, r.2.2) else
  let p := parseKeyL r.1
  if p.2 ≠ 0 then (Ent.zero, 0, 29) else
  let v := readBytesL l r.2.1 4096
  if v.2.2 ≠ 0 then (Ent.zero, 0, v.2.2) else
  if 0 < v.1.length ∧ p.1.kind ≠ 1 then (Ent.zero, 0, 29) else (withValue p.1 v.1, v.2.1, 0)
/-- A new entry, a place and a fault. -/
def OutEN3 (w : World) (y : Ent × Int × Int) (e : Ending) (w' : World) : Prop :=
  ∃ r q x, e = .returned (.tuple #[.agg (entCells r q x y.1), .int .i64 y.2.1, .int .i64 y.2.2]) ∧ OwE w' r q x y.1 ∧ FromE w.heap.size r q x ∧ Ext w w'

set_option maxHeartbeats 1000000 in
set_option maxRecDepth 100000 in
theorem Unpack_ok (v : Value) (l : List Int) (i : Int) (w : World) (hv : RdB w v l) (hl : l.length ≤ 140737488351232) : Calls Try.prog 13 #[v, .int .i64 i] w (OutEN3 w (unpackL l i)) := by
  have hW : Ext w (w.alloc (.cells zeroV 24)) := (Ext.refl _).alloc _
  have hV2 : Var (w.alloc (.cells zeroV 24)) w.heap.size 24 zeroV := Var.new w _ _
  generalize hWg : w.alloc (.cells zeroV 24) = W at *
  have hlt2 := hV2.lt
  have hbw : w.heap.size ≤ w.heap.size := Nat.le_refl _
  have h1 := ReadBytes_ok v l i 1048 W (hv.ext hW) (by omega) (by omega) (by omega)
  have H2 := Lib.hid (fun (j : Int) (W : World) (h : Ext w W) => ReadBytes_ok v l j 4096 W (hv.ext h) (by omega) (by omega) (by omega))
  have hl1 := readBytes_len l i 1048
  obtain ⟨Y, hY⟩ : ∃ Y, Y = unpackL l i := ⟨_, rfl⟩
  rw [← hY]
  unfold unpackL at hY
  dsimp only at hY
  generalize readBytesL l i 1048 = r1 at *
  obtain ⟨kl, at1, e1⟩ := r1
  dsimp only at hY hl1
  have HY := Lib.hid hY
  have H1 := Lib.hid h1
  clear h1 hY hv
  unfold zeroV at *
  go_enter Try.func13, Try.ntmps13
  go_wp2_with fail
  refine H1.out.mono ?_
  rintro e0 w1 ⟨k, rfl, hok, hfk, he1⟩
  clear H1 hWg
  have hV21 := hV2.ext he1
  have hE1 := hW.trans he1
  have hs1 := he1.size
  have hY := HY.out
  clear HY hV2
  by_cases hz1 : e1 = 0
  case neg =>
    rw [if_pos hz1] at hY
    subst hY
    have hb : ((e1 : Int) != 0) = true := by simpa using hz1
    have hc := hV21.cell
    have hz := hV21.frozen
    obtain ⟨w9, hw9, hV9, hg9⟩ := store7 hV21 rfl (.slice none 0 0) (.int .i64 0) (.slice none 0 0) (.int .i64 0) (.int .i64 0) (.int .i64 0) (.slice none 0 0)
    have hc9 := hV9.cell
    clear hz1
    go_wp2
    exact bodyPost_ret (v := .tuple #[.agg (entCells (.slice none 0 0) (.slice none 0 0) (.slice none 0 0) Ent.zero), .int .i64 0, .int .i64 e1]) (by simp [results, Try.results13, go_sem, entCells, Ent.zero, hc9]) rfl ⟨_, _, _, rfl, OwE.zero _, FromE.zero _, hE1.put hg9 hbw⟩
  subst hz1
  rw [if_neg (by simp)] at hY
  have h2 := ParseKey_ok k kl w1 hok.rd (by omega)
  generalize parseKeyL kl = P at *
  obtain ⟨en, e2⟩ := P
  dsimp only at hY
  have HP := Lib.hid h2
  have HY := Lib.hid hY
  clear h2 hY
  go_wp2_with fail
  refine HP.out.mono ?_
  rintro e0 w2 ⟨r, q, x, rfl, hoe, hfe, he2⟩
  clear HP
  have hY := HY.out
  clear HY
  obtain ⟨A1, c1, rfl, _⟩ := hoe.row.rd.shape
  obtain ⟨A2, c2, rfl, _⟩ := hoe.qual.rd.shape
  obtain ⟨A3, c3, rfl, _⟩ := hoe.value.rd.shape
  have hE2 := hE1.trans he2
  have hs2 := he2.size
  have hV2a := (hV21.ext he2).alloc (.cells (entCells (.slice A1 en.row.length c1) (.slice A2 en.qual.length c2) (.slice A3 en.value.length c3) en) 24)
  have hV4a := Var.new w2 (entCells (.slice A1 en.row.length c1) (.slice A2 en.qual.length c2) (.slice A3 en.value.length c3) en) 24
  have hEa := hE2.alloc (.cells (entCells (.slice A1 en.row.length c1) (.slice A2 en.qual.length c2) (.slice A3 en.value.length c3) en) 24)
  have hoa := hoe.ext ((Ext.refl w2).alloc (.cells (entCells (.slice A1 en.row.length c1) (.slice A2 en.qual.length c2) (.slice A3 en.value.length c3) en) 24))
  unfold entCells at *
  generalize hwa : w2.alloc (.cells #[.slice A1 en.row.length c1, .int .i64 en.fam, .slice A2 en.qual.length c2, .int .i64 en.ts, .int .i64 en.seq, .int .i64 en.kind, .slice A3 en.value.length c3] 24) = wa at *
  have hsa : w2.heap.size < wa.heap.size := hV4a.lt
  have hlt2a := hV2a.lt
  by_cases hz2 : e2 = 0
  case neg =>
    rw [if_pos hz2] at hY
    subst hY
    have hb : ((e2 : Int) != 0) = true := by simpa using hz2
    have hc := hV2a.cell
    have hz := hV2a.frozen
    obtain ⟨w9, hw9, hV9, hg9⟩ := store7 hV2a rfl (.slice none 0 0) (.int .i64 0) (.slice none 0 0) (.int .i64 0) (.int .i64 0) (.int .i64 0) (.slice none 0 0)
    have hc9 := hV9.cell
    clear hz2
    go_wp2
    exact bodyPost_ret (v := .tuple #[.agg (entCells (.slice none 0 0) (.slice none 0 0) (.slice none 0 0) Ent.zero), .int .i64 0, .int .i64 29]) (by simp [results, Try.results13, go_sem, entCells, Ent.zero, hc9]) rfl ⟨_, _, _, rfl, OwE.zero _, FromE.zero _, hEa.put hg9 hbw⟩
  subst hz2
  rw [if_neg (by simp)] at hY
  have h3 := H2.out at1 wa hEa
  generalize readBytesL l at1 4096 = r3 at *
  obtain ⟨vl, at3, e3⟩ := r3
  dsimp only at hY
  have H3 := Lib.hid h3
  have HY := Lib.hid hY
  clear h3 hY
  go_wp2_with fail
  refine H3.out.mono ?_
  rintro e0 w3 ⟨vv, rfl, hov, hfv, he3⟩
  clear H3 hwa
  have hY := HY.out
  clear HY
  obtain ⟨A4, c4, rfl, _⟩ := hov.rd.shape
  have hV23 := hV2a.ext he3
  have hV43 := hV4a.ext he3
  have hE3 := hEa.trans he3
  have hs3 := he3.size
  have ho3 := hoa.ext he3
  by_cases hz3 : e3 = 0
  case neg =>
    rw [if_pos hz3] at hY
    subst hY
    have hb : ((e3 : Int) != 0) = true := by simpa using hz3
    have hc := hV23.cell
    have hz := hV23.frozen
    obtain ⟨w9, hw9, hV9, hg9⟩ := store7 hV23 rfl (.slice none 0 0) (.int .i64 0) (.slice none 0 0) (.int .i64 0) (.int .i64 0) (.int .i64 0) (.slice none 0 0)
    have hc9 := hV9.cell
    clear hz3
    go_wp2
    exact bodyPost_ret (v := .tuple #[.agg (entCells (.slice none 0 0) (.slice none 0 0) (.slice none 0 0) Ent.zero), .int .i64 0, .int .i64 e3]) (by simp [results, Try.results13, go_sem, entCells, Ent.zero, hc9]) rfl ⟨_, _, _, rfl, OwE.zero _, FromE.zero _, hE3.put hg9 hbw⟩
  subst hz3
  rw [if_neg (by simp)] at hY
  have hc34 := hV43.cell
  have hz34 := hV43.frozen
  have hfr1 := hfe.1
  have hfr2 := hfe.2.1
  obtain ⟨wB, hwB⟩ : ∃ wB, w3.setCell ⟨w2.heap.size, 6, none⟩ (.slice A4 vl.length c4) = wB := ⟨_, rfl⟩
  have hEB : Ext w wB := by rw [← hwB]; exact hE3.setCell (by show w.heap.size ≤ w2.heap.size; omega) _
  have hV2B := hV23.set_other (show w.heap.size ≠ w2.heap.size by omega) 6 (.slice A4 vl.length c4)
  have hV4B := hV43.set 6 (.slice A4 vl.length c4)
  rw [hwB] at hV2B hV4B
  have n1 : (Value.slice A1 en.row.length c1).ownBlock ≠ some w2.heap.size := fun e => Nat.lt_irrefl _ (Ow.lt hoe.row _ e)
  have n2 : (Value.slice A2 en.qual.length c2).ownBlock ≠ some w2.heap.size := fun e => Nat.lt_irrefl _ (Ow.lt hoe.qual _ e)
  have n3 : (Value.slice A4 vl.length c4).ownBlock ≠ some w2.heap.size := hfv.ne hsa
  have hoR : OwB wB (.slice A1 en.row.length c1) en.row := by rw [← hwB]; exact Ow.set_var ho3.row n1 6 _
  have hoQ : OwB wB (.slice A2 en.qual.length c2) en.qual := by rw [← hwB]; exact Ow.set_var ho3.qual n2 6 _
  have hoV : OwB wB (.slice A4 vl.length c4) vl := by rw [← hwB]; exact Ow.set_var hov n3 6 _
  have s1 : Sep (.slice A1 en.row.length c1) (.slice A4 vl.length c4) := Ow.sep hoa.row hfv
  have s2 : Sep (.slice A2 en.qual.length c2) (.slice A4 vl.length c4) := Ow.sep hoa.qual hfv
  have s3 := ho3.rq
  have hcB2 := hV2B.cell
  have hzB2 := hV2B.frozen
  have hcB4 := hV4B.cell
  by_cases hbad : 0 < vl.length ∧ en.kind ≠ 1
  · rw [if_pos hbad] at hY
    subst hY
    obtain ⟨b1, b2⟩ := hbad
    have b3 : ((en.kind : Int) != 1) = true := by simpa using b2
    obtain ⟨w9, hw9, hV9, hg9⟩ := store7 hV2B rfl (.slice none 0 0) (.int .i64 0) (.slice none 0 0) (.int .i64 0) (.int .i64 0) (.int .i64 0) (.slice none 0 0)
    have hc9 := hV9.cell
    clear b2
    go_wp2
    exact bodyPost_ret (v := .tuple #[.agg (entCells (.slice none 0 0) (.slice none 0 0) (.slice none 0 0) Ent.zero), .int .i64 0, .int .i64 29]) (by simp [results, Try.results13, go_sem, entCells, Ent.zero, hc9]) rfl ⟨_, _, _, rfl, OwE.zero _, FromE.zero _, hEB.put hg9 hbw⟩
  · rw [if_neg hbad] at hY
    subst hY
    obtain ⟨w9, hw9, hV9, hg9⟩ := store7 hV2B rfl (.slice A1 en.row.length c1) (.int .i64 en.fam) (.slice A2 en.qual.length c2) (.int .i64 en.ts) (.int .i64 en.seq) (.int .i64 en.kind) (.slice A4 vl.length c4)
    have hc9 := hV9.cell
    have hoB : OwE wB (.slice A1 en.row.length c1) (.slice A2 en.qual.length c2) (.slice A4 vl.length c4) (withValue en vl) := ⟨hoR, hoQ, hoV, s3, s1, s2⟩
    have hfB : FromE W.heap.size (.slice A1 en.row.length c1) (.slice A2 en.qual.length c2) (.slice A4 vl.length c4) := ⟨hfr1.mono hs1, hfr2.mono hs1, hfv.mono (by omega)⟩
    have ho9 := hoB.put hfB hg9 hlt2
    by_cases b1 : 0 < vl.length
    · have b2 : en.kind = 1 := Classical.byContradiction fun h => hbad ⟨b1, h⟩
      have b3 : ((en.kind : Int) != 1) = false := by simpa using b2
      clear hbad b2
      go_wp2
      exact bodyPost_ret (v := .tuple #[.agg (entCells (.slice A1 en.row.length c1) (.slice A2 en.qual.length c2) (.slice A4 vl.length c4) (withValue en vl)), .int .i64 at3, .int .i64 0]) (by simp [results, Try.results13, go_sem, entCells, withValue, hc9]) rfl ⟨_, _, _, rfl, ho9, hfB.mono (Nat.le_of_lt hlt2), hEB.put hg9 hbw⟩
    · have b2 : vl.length ≤ 0 := by omega
      clear hbad
      go_wp2
      exact bodyPost_ret (v := .tuple #[.agg (entCells (.slice A1 en.row.length c1) (.slice A2 en.qual.length c2) (.slice A4 vl.length c4) (withValue en vl)), .int .i64 at3, .int .i64 0]) (by simp [results, Try.results13, go_sem, entCells, withValue, hc9]) rfl ⟨_, _, _, rfl, ho9, hfB.mono (Nat.le_of_lt hlt2), hEB.put hg9 hbw⟩
end Go.Proofs.Ytckhefkedkipeab

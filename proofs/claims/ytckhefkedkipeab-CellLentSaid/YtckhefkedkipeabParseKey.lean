/- Package cell: keys and packed entries, read. -/
import Derived.Test.YtckhefkedkipeabParse
namespace Go.Proofs.Ytckhefkedkipeab
open Go.RowKit

theorem wrap64_range (n : Int) : isI64 (wrap64 n) := by unfold isI64 wrap64; omega
theorem readFalling_range (l : List Int) (i : Int) : isI64 (readFallingL l i).1 := by
  unfold readFallingL
  split
  · exact wrap64_range _
  · exact ⟨by simp, by simp⟩
theorem readOrdered_len (l : List Int) (i : Int) : (readOrderedL l i).1.length ≤ l.length := by
  by_cases h : (readOrderedL l i).2.2 = 0
  · unfold readOrderedL at h ⊢
    by_cases ho : outsideL l i = true
    · rw [if_pos ho]; simp
    · rw [if_neg ho] at h ⊢
      have := (rOrd_ok _ _ _ _ (Nat.le_refl _) h).2.2
      simp only [List.length_drop, List.length_nil] at this
      omega
  · have hz : (readOrderedL l i).1 = [] := by
      unfold readOrderedL at h ⊢
      by_cases ho : outsideL l i = true
      · rw [if_pos ho]
      · rw [if_neg ho] at h ⊢
        exact rOrd_bad_nil _ _ _ _ (Nat.le_refl _) h
    rw [hz]; simp
theorem parseTail_fits (l row : List Int) (fam : Int) (qual : List Int) (i : Int) (e : Ent) (h : parseTail l row fam qual i = some e) (hf : isI64 fam) (hr : row.length ≤ 140737488351232) (hq : qual.length ≤ 140737488351232) : e.Fits ∧ e.value = [] := by
  unfold parseTail at h
  split at h
  · cases h
  · split at h
    · cases h
    · cases h
      exact ⟨⟨hf, readFalling_range _ _, readFalling_range _ _, wrap64_range _, hr, hq, by simp⟩, rfl⟩
theorem parse_fits (l : List Int) (e : Ent) (h : parseL l = some e) (hl : l.length ≤ 140737488351232) : e.Fits ∧ e.value = [] := by
  unfold parseL at h
  have h1 := readOrdered_len l 0
  dsimp only at h
  split at h
  · cases h
  · split at h
    · exact parseTail_fits _ _ _ _ _ _ h (wrap64_range _) (by omega) (by simp)
    · split at h
      · cases h
      · have h2 := readOrdered_len l ((readOrderedL l 0).2.1 + 2)
        exact parseTail_fits _ _ _ _ _ _ h (wrap64_range _) (by omega) (by omega)

/-- A new entry and a fault. -/
def OutEN (w : World) (y : Ent × Int) (e : Ending) (w' : World) : Prop :=
  ∃ r q x, e = .returned (.tuple #[.agg (entCells r q x y.1), .int .i64 y.2]) ∧ OwE w' r q x y.1 ∧ FromE w.heap.size r q x ∧ Ext w w'
def parseKeyL (l : List Int) : Ent × Int :=
  match parseL l with
  | none => (Ent.zero, 27)
  | some e => if (keyL e).2 = 0 ∧ eqS (keyL e).1 l = true then (e, 0) else (Ent.zero, 27)

theorem OwE.put {w w2 : World} {r q x : Value} {e : Ent} (h : OwE w r q x e) {b n : Nat} (hf : FromE n r q x) (hg : w.grownBy w2 (some b)) (hb : b < n) : OwE w2 r q x e :=
  ⟨Ow.kept h.row fun k hk => hg.block k (Ow.lt h.row k hk) (fun e => by have := hf.1 k hk; cases e; omega), Ow.kept h.qual fun k hk => hg.block k (Ow.lt h.qual k hk) (fun e => by have := hf.2.1 k hk; cases e; omega),
    Ow.kept h.value fun k hk => hg.block k (Ow.lt h.value k hk) (fun e => by have := hf.2.2 k hk; cases e; omega), h.rq, h.rx, h.qx⟩

set_option maxHeartbeats 1000000 in
set_option maxRecDepth 100000 in
theorem ParseKey_ok (v : Value) (l : List Int) (w : World) (hv : RdB w v l) (hl : l.length ≤ 140737488351232) : Calls Try.prog 11 #[v] w (OutEN w (parseKeyL l)) := by
  have hW : Ext w (w.alloc (.cells zeroV 24)) := (Ext.refl _).alloc _
  have hV2 : Var (w.alloc (.cells zeroV 24)) w.heap.size 24 zeroV := Var.new w _ _
  generalize hWg : w.alloc (.cells zeroV 24) = W at *
  have hlt2 := hV2.lt
  have hbw : w.heap.size ≤ w.heap.size := Nat.le_refl _
  have hP := parse_ok v l W (hv.ext hW) (by omega)
  have hpf := parse_fits l
  unfold parseKeyL
  cases hpl : parseL l with
  | none =>
    rw [hpl] at hP
    have HP := Lib.hid hP
    clear hP hpf hpl
    unfold zeroV at *
    go_enter Try.func11, Try.ntmps11
    go_wp2_with fail
    refine HP.out.mono ?_
    rintro e0 w1 ⟨r, q, x, en, rfl, ⟨A1, n1, c1, rfl⟩, ⟨A2, n2, c2, rfl⟩, ⟨A3, n3, c3, rfl⟩, he1⟩
    clear hWg HP
    have hE := hW.trans he1
    have hV2a := (hV2.ext he1).alloc (.cells (entCells (.slice A1 n1 c1) (.slice A2 n2 c2) (.slice A3 n3 c3) en) 24)
    have hEa := hE.alloc (.cells (entCells (.slice A1 n1 c1) (.slice A2 n2 c2) (.slice A3 n3 c3) en) 24)
    unfold entCells at hV2a hEa ⊢
    generalize hwa : w1.alloc (.cells #[.slice A1 n1 c1, .int .i64 en.fam, .slice A2 n2 c2, .int .i64 en.ts, .int .i64 en.seq, .int .i64 en.kind, .slice A3 n3 c3] 24) = wa at *
    have hca := hV2a.cell
    have hza := hV2a.frozen
    obtain ⟨w9, hw9, hV9, hg9⟩ := store7 hV2a rfl (.slice none 0 0) (.int .i64 0) (.slice none 0 0) (.int .i64 0) (.int .i64 0) (.int .i64 0) (.slice none 0 0)
    have hc9 := hV9.cell
    go_wp2
    exact bodyPost_ret (v := .tuple #[.agg (entCells (.slice none 0 0) (.slice none 0 0) (.slice none 0 0) Ent.zero), .int .i64 27]) (by simp [results, Try.results11, go_sem, entCells, Ent.zero, hc9]) rfl ⟨_, _, _, rfl, OwE.zero _, FromE.zero _, hEa.put hg9 hbw⟩
  | some en =>
    rw [hpl] at hP
    have hfit := (hpf en hpl hl).1
    have HP := Lib.hid hP
    have HV := Lib.hid hv
    obtain ⟨Y, hY⟩ : ∃ Y, Y = (if (keyL en).2 = 0 ∧ eqS (keyL en).1 l = true then (en, 0) else (Ent.zero, 27) : Ent × Int) := ⟨_, rfl⟩
    have HY : Hid (Y = if (keyL en).2 = 0 ∧ eqS (keyL en).1 l = true then (en, 0) else (Ent.zero, 27)) := hY
    show Calls _ _ _ _ (OutEN w (if (keyL en).2 = 0 ∧ eqS (keyL en).1 l = true then (en, 0) else (Ent.zero, 27)))
    rw [← hY]
    clear hP hpf hpl hY hv
    unfold zeroV at *
    go_enter Try.func11, Try.ntmps11
    go_wp2_with fail
    refine HP.out.mono ?_
    rintro e0 w1 ⟨r, q, x, rfl, hoe, hfe, he1⟩
    clear hWg HP
    obtain ⟨A1, c1, rfl, _⟩ := hoe.row.rd.shape
    obtain ⟨A2, c2, rfl, _⟩ := hoe.qual.rd.shape
    obtain ⟨A3, c3, rfl, _⟩ := hoe.value.rd.shape
    have hE := hW.trans he1
    have hs1 := he1.size
    have hV2a := (hV2.ext he1).alloc (.cells (entCells (.slice A1 en.row.length c1) (.slice A2 en.qual.length c2) (.slice A3 en.value.length c3) en) 24)
    have hV4a := Var.new w1 (entCells (.slice A1 en.row.length c1) (.slice A2 en.qual.length c2) (.slice A3 en.value.length c3) en) 24
    have hEa := hE.alloc (.cells (entCells (.slice A1 en.row.length c1) (.slice A2 en.qual.length c2) (.slice A3 en.value.length c3) en) 24)
    have hoa := hoe.ext ((Ext.refl w1).alloc (.cells (entCells (.slice A1 en.row.length c1) (.slice A2 en.qual.length c2) (.slice A3 en.value.length c3) en) 24))
    generalize hwa : w1.alloc (.cells (entCells (.slice A1 en.row.length c1) (.slice A2 en.qual.length c2) (.slice A3 en.value.length c3) en) 24) = wa at *
    have hsa : w1.heap.size < wa.heap.size := hV4a.lt
    have hlt2a := hV2a.lt
    have hK := Key_ok _ _ _ en wa hoa.rd hfit
    generalize keyL en = K at *
    obtain ⟨kl, kf⟩ := K
    have HK := Lib.hid hK
    clear hK
    have hca4 := hV4a.cell
    unfold entCells at hwa hca4 HK hV4a ⊢
    go_wp2_with fail
    refine HK.out.mono ?_
    rintro e0 w2 ⟨k, rfl, hok, hfk, hek⟩
    clear HK hwa
    have hV2k := hV2a.ext hek
    have hV4k := hV4a.ext hek
    have hEk := hEa.trans hek
    have hoek := hoa.ext hek
    have hck2 := hV2k.cell
    have hzk2 := hV2k.frozen
    have hck4 := hV4k.cell
    clear hca4 hV4a hV2a hoa hoe hV2
    have hY := HY.out
    try dsimp only at hY
    by_cases hkf : kf = 0
    · subst hkf
      have hq := Equal_ok k v kl l w2 hok.rd (HV.out.ext hEk)
      have HQ := Lib.hid hq
      clear hq
      by_cases hqq : eqS kl l = true
      · rw [if_pos ⟨rfl, hqq⟩] at hY
        subst hY
        obtain ⟨w9, hw9, hV9, hg9⟩ := store7 hV2k rfl (.slice A1 en.row.length c1) (.int .i64 en.fam) (.slice A2 en.qual.length c2) (.int .i64 en.ts) (.int .i64 en.seq) (.int .i64 en.kind) (.slice A3 en.value.length c3)
        have hc9 := hV9.cell
        go_wp2_with (go_at_call 27; (with_reducible refine HQ.out.mono ?_); rintro e0 w' ⟨rfl, rfl⟩)
        exact bodyPost_ret (v := .tuple #[.agg (entCells (.slice A1 en.row.length c1) (.slice A2 en.qual.length c2) (.slice A3 en.value.length c3) en), .int .i64 0]) (by simp [results, Try.results11, go_sem, entCells, hc9]) rfl ⟨_, _, _, rfl, hoek.put hfe hg9 hlt2, hfe.mono (Nat.le_of_lt hlt2), hEk.put hg9 hbw⟩
      · rw [if_neg (fun h => hqq h.2)] at hY
        subst hY
        have hqf : eqS kl l = false := by simpa using hqq
        obtain ⟨w9, hw9, hV9, hg9⟩ := store7 hV2k rfl (.slice none 0 0) (.int .i64 0) (.slice none 0 0) (.int .i64 0) (.int .i64 0) (.int .i64 0) (.slice none 0 0)
        have hc9 := hV9.cell
        clear hqq
        go_wp2_with (go_at_call 27; (with_reducible refine HQ.out.mono ?_); rintro e0 w' ⟨rfl, rfl⟩)
        exact bodyPost_ret (v := .tuple #[.agg (entCells (.slice none 0 0) (.slice none 0 0) (.slice none 0 0) Ent.zero), .int .i64 27]) (by simp [results, Try.results11, go_sem, entCells, Ent.zero, hc9]) rfl ⟨_, _, _, rfl, OwE.zero _, FromE.zero _, hEk.put hg9 hbw⟩
    · rw [if_neg (fun h => hkf h.1)] at hY
      subst hY
      have hbf : ((kf : Int) != 0) = true := by simpa using hkf
      obtain ⟨w9, hw9, hV9, hg9⟩ := store7 hV2k rfl (.slice none 0 0) (.int .i64 0) (.slice none 0 0) (.int .i64 0) (.int .i64 0) (.int .i64 0) (.slice none 0 0)
      have hc9 := hV9.cell
      clear hkf
      go_wp2
      exact bodyPost_ret (v := .tuple #[.agg (entCells (.slice none 0 0) (.slice none 0 0) (.slice none 0 0) Ent.zero), .int .i64 27]) (by simp [results, Try.results11, go_sem, entCells, Ent.zero, hc9]) rfl ⟨_, _, _, rfl, OwE.zero _, FromE.zero _, hEk.put hg9 hbw⟩

end Go.Proofs.Ytckhefkedkipeab

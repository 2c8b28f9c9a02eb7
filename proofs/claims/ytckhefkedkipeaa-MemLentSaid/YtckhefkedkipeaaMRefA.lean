/- The document's Add: the list with the entry put in. -/
import Derived.Test.YtckhefkedkipeaaMRefL
namespace Go.Proofs.Ytckhefkedkipeaa
open Go.RowKit
set_option linter.unusedVariables false

/-- append of entries. -/
theorem appE {ops : Array Oper} {rest : List Oper} {o : Oper} {a : Act} {W : World} {Q : Exit → Act → World → Prop}
    (hgd : o.guard = none) (s x : Operand) (ho : o.op = .call { callee := .builtin .append, args := #[s, x], argTypes := #[22, 22] })
    {v y : Value} {n m : Nat} {xs ys : List Value} (hs : a.eval s = v) (hx : a.eval x = y) (hown : Ow W 25 7 v n xs) (hr : Rd W y m 7 ys) (h1 : ∀ u ∈ ys, u.oneCell' = true) (hb : n + m ≤ 10000)
    (h : ∀ v' w', Ow w' 25 7 v' (n + m) (xs ++ ys) → W.grownBy w' v.ownBlock → (v'.ownBlock = v.ownBlock ∨ v'.ownBlock = some W.heap.size) → wpList Try.prog ops Q rest (a.put o.dst v') w') :
    wpList Try.prog ops Q (o :: rest) a W :=
  wp_app 22 25 _ 7 104 Try.underlying22 infoE rfl (by omega) (by omega) hgd s x ho hs hx hown hr h1 (by omega) h
theorem flat_one (is : List Itm) (h : ∀ i ∈ is, i.r.oneCell' = true ∧ i.q.oneCell' = true ∧ i.x.oneCell' = true) : ∀ u ∈ flat is, u.oneCell' = true := by
  intro u hu
  simp only [flat, List.mem_flatMap, List.mem_cons, List.not_mem_nil, or_false] at hu
  obtain ⟨i, hi, hu⟩ := hu
  have := h i hi
  rcases hu with rfl | rfl | rfl | rfl | rfl | rfl | rfl <;> first | exact this.1 | exact this.2.1 | exact this.2.2 | rfl
theorem RdB.one {w : World} {v : Value} {l : List Int} (h : RdB w v l) : v.oneCell' = true := by
  obtain ⟨A, c, rfl, _⟩ := h.shape; rfl
theorem RL.one {w : World} {N : Nat} {v : Value} {is : List Itm} (h : RL w N v is) : ∀ u ∈ flat is, u.oneCell' = true := flat_one is fun i hi => ⟨(h.rd i hi).row.one, (h.rd i hi).qual.one, (h.rd i hi).value.one⟩
def refL (e : Ent) (L : List Ent) : List Ent := if checkL e = 0 then (addL e L).1 else L
def refCode (e : Ent) (L : List Ent) : Int := if checkL e = 0 then (if (addL e L).2 = true then 0 else 80) else checkL e
theorem addL_at (e : Ent) : ∀ (L : List Ent) (k : Nat), k ≤ L.length → (∀ j y, j < k → L[j]? = some y → compareL y e < 0) → addL e L = (L.take k ++ (addL e (L.drop k)).1, (addL e (L.drop k)).2)
  | L, 0, _, _ => by simp
  | [], k + 1, h, _ => by simp at h
  | y :: L, k + 1, h, hl => by
    have ih := addL_at e L k (by simpa using h) fun j z hj hz => hl (j + 1) z (by omega) (by simpa using hz)
    have hy := hl 0 y (by omega) (by simp)
    simp only [addL, if_pos hy, List.take_succ_cons, List.drop_succ_cons]
    rw [ih]
    simp
def OutA (N : Nat) (w : World) (es : List Ent) (code : Int) (e0 : Ending) (w' : World) : Prop := ∃ v is, e0 = .returned (.tuple #[.agg #[v, .bool false], .int .i64 code]) ∧ RL w' N v is ∧ is.map (·.e) = es ∧ Ext w w'

set_option maxHeartbeats 4000000 in
set_option maxRecDepth 100000 in
theorem rAdd_bad (Lv r q x : Value) (is : List Itm) (e : Ent) (N : Nat) (w : World) (hL : RL w N Lv is) (hr : RdE w r q x e) (hf : e.Fits) (hc : checkL e ≠ 0) :
    Calls Try.prog 6 #[.agg #[Lv, .bool false], .agg (entCells r q x e)] w (OutA N w (is.map (·.e)) (checkL e)) := by
  obtain ⟨_, A, c, rfl, hcc, _⟩ := hL.row
  have hV1 := ((Var.new w #[.slice A is.length c, .bool false] 30).alloc (.cells (entCells r q x e) 25)).alloc (.cells #[.slice none 0 0, .bool false] 30)
  have hV2 := (Var.new (w.alloc (.cells #[.slice A is.length c, .bool false] 30)) (entCells r q x e) 25).alloc (.cells #[.slice none 0 0, .bool false] 30)
  have hV3 := Var.new ((w.alloc (.cells #[.slice A is.length c, .bool false] 30)).alloc (.cells (entCells r q x e) 25)) #[.slice none 0 0, .bool false] 30
  have hE := (((Ext.refl w).alloc (.cells #[.slice A is.length c, .bool false] 30)).alloc (.cells (entCells r q x e) 25)).alloc (.cells #[.slice none 0 0, .bool false] 30)
  unfold entCells at hV1 hV2 hV3 hE ⊢
  obtain ⟨X, hX⟩ : ∃ X, (((w.alloc (.cells #[.slice A is.length c, .bool false] 30)).alloc (.cells #[r, .int .i64 e.fam, q, .int .i64 e.ts, .int .i64 e.seq, .int .i64 e.kind, x] 25)).alloc (.cells #[.slice none 0 0, .bool false] 30)) = X := ⟨_, rfl⟩
  rw [hX] at hV1 hV2 hV3 hE
  simp only [World.size_alloc] at hV2 hV3
  have c1 := hV1.cell
  have c2 := hV2.cell
  have HC := Lib.hid (rCheck_ok r q x e X (hr.ext hE) hf)
  unfold entCells at HC
  have HL := Lib.hid hL
  have HV1 := Lib.hid hV1
  have HV3 := Lib.hid hV3
  have hlt3 : w.heap.size + 1 + 1 < X.heap.size := hV3.lt
  clear hL hr hV1 hV2 hV3
  generalize checkL e = cc at *
  have hcb : (cc != 0) = true := by simpa using hc
  clear hc
  go_enter Try.func6, Try.ntmps6
  go_wp2_with fail
  clear hX
  refine HC.out.mono ?_
  rintro e0 w1 ⟨rfl, he1⟩
  clear c1 c2
  have k1 := (HV1.out.ext he1).cell
  have k3 := (HV3.out.ext he1).cell
  have z3 := (HV3.out.ext he1).frozen
  have hV9 := ((HV3.out.ext he1).set 0 (.slice A is.length c)).set 1 (.bool false)
  have hE9 := ((hE.trans he1).setCell (p := ⟨w.heap.size + 1 + 1, 0, none⟩) (by simp only; omega) (.slice A is.length c)).setCell (p := ⟨w.heap.size + 1 + 1, 1, none⟩) (by simp only; omega) (.bool false)
  obtain ⟨Y, hY⟩ : ∃ Y, (w1.setCell ⟨w.heap.size + 1 + 1, 0, none⟩ (.slice A is.length c)).setCell ⟨w.heap.size + 1 + 1, 1, none⟩ (.bool false) = Y := ⟨_, rfl⟩
  rw [hY] at hV9 hE9
  have hc9 := hV9.cell
  go_wp2
  exact bodyPost_ret (v := .tuple #[.agg #[.slice A is.length c, .bool false], .int .i64 cc]) (by simp [results, Try.results6, go_sem, hc9]) rfl ⟨_, is, rfl, HL.out.ext hE9, rfl, hE9⟩

set_option maxHeartbeats 8000000 in
set_option maxRecDepth 100000 in
theorem rAdd_good (Lv r q x : Value) (is : List Itm) (e : Ent) (N : Nat) (w : World) (hL : RL w N Lv is) (hNw : N ≤ w.heap.size) (hn : is.length ≤ 1000) (hok : ∀ i ∈ is, EOk i.e) (hr : RdE w r q x e) (he : EOk e) (hf : e.Fits) (hc : checkL e = 0) :
    Calls Try.prog 6 #[.agg #[Lv, .bool false], .agg (entCells r q x e)] w (OutA N w (addL e (is.map (·.e))).1 (if (addL e (is.map (·.e))).2 = true then 0 else 80)) := by
  obtain ⟨_, A, c, rfl, hcc, _⟩ := hL.row
  have hV1 := ((Var.new w #[.slice A is.length c, .bool false] 30).alloc (.cells (entCells r q x e) 25)).alloc (.cells #[.slice none 0 0, .bool false] 30)
  have hV2 := (Var.new (w.alloc (.cells #[.slice A is.length c, .bool false] 30)) (entCells r q x e) 25).alloc (.cells #[.slice none 0 0, .bool false] 30)
  have hV3 := Var.new ((w.alloc (.cells #[.slice A is.length c, .bool false] 30)).alloc (.cells (entCells r q x e) 25)) #[.slice none 0 0, .bool false] 30
  have hE := (((Ext.refl w).alloc (.cells #[.slice A is.length c, .bool false] 30)).alloc (.cells (entCells r q x e) 25)).alloc (.cells #[.slice none 0 0, .bool false] 30)
  unfold entCells at hV1 hV2 hV3 hE ⊢
  obtain ⟨X, hX⟩ : ∃ X, (((w.alloc (.cells #[.slice A is.length c, .bool false] 30)).alloc (.cells #[r, .int .i64 e.fam, q, .int .i64 e.ts, .int .i64 e.seq, .int .i64 e.kind, x] 25)).alloc (.cells #[.slice none 0 0, .bool false] 30)) = X := ⟨_, rfl⟩
  rw [hX] at hV1 hV2 hV3 hE
  simp only [World.size_alloc] at hV2 hV3
  have c1 := hV1.cell
  have c2 := hV2.cell
  have HC := Lib.hid (rCheck_ok r q x e X (hr.ext hE) hf)
  unfold entCells at HC
  rw [hc] at HC
  have HL := Lib.hid hL
  have HV1 := Lib.hid hV1
  have HV2 := Lib.hid hV2
  have HV3 := Lib.hid hV3
  have HR := Lib.hid hr
  have HOK := Lib.hid hok
  have HEK := Lib.hid he
  have f1 := he.2.1
  have f2 := he.2.2.1
  have f3 := he.2.2.2
  have hlt3 : w.heap.size + 1 + 1 < X.heap.size := hV3.lt
  have hat := addL_at e (is.map (·.e))
  obtain ⟨P, hP⟩ : ∃ P, addL e (is.map (·.e)) = P := ⟨_, rfl⟩
  rw [hP] at hat ⊢
  have HAT := Lib.hid hat
  obtain ⟨code, hcode⟩ : ∃ code : Int, (if P.2 = true then 0 else 80) = code := ⟨_, rfl⟩
  rw [hcode]
  have HCODE := Lib.hid hcode
  obtain ⟨P1, hP1⟩ : ∃ P1, P.1 = P1 := ⟨_, rfl⟩
  rw [hP1]
  have HP1 := Lib.hid hP1
  clear hcode hP1
  clear hL hr hV1 hV2 hV3 hok he hc hat hP
  go_enter Try.func6, Try.ntmps6
  go_wp2_with fail
  clear hX
  refine HC.out.mono ?_
  rintro e0 w1 ⟨rfl, he1⟩
  clear c1 c2
  have k1 := (HV1.out.ext he1).cell
  go_wp2_with fail
  clear k1
  go_loopg [7] is.length (fun g y wr => ∃ k : Nat, y = .int .i64 k ∧ k + g = is.length ∧ Ext X wr ∧ Hid (∀ j y, j < k → (is.map (·.e))[j]? = some y → compareL y e < 0))
  case atStart => exact ⟨0, rfl, by omega, he1, by intro j y hj; omega⟩
  case round =>
    obtain ⟨k, rfl, hkg, hEr, hres⟩ := hrel
    have hEw : Ext w wr := hE.trans hEr
    have hc1 := (HV1.out.ext hEr).cell
    have hk : k ≤ is.length := by omega
    have hP := HAT.out k (by simpa using hk) hres
    have HP := Lib.hid hP
    clear hP HAT
    by_cases hlt : k < is.length
    · obtain ⟨a, A1, d1, A2, d2, A3, d3, ek, rfl, hit, hrk, c0, c1, c2, c3, c4, c5, c6⟩ := (HL.out.ext hEw).at_ k hlt
      have hek := HOK.out _ (List.mem_of_getElem? hit)
      have HCM := Lib.hid (fun W' (h : Ext wr W') => rCompare_ok _ _ _ r q x ek e W' (hrk.ext h) (HR.out.ext (hEw.trans h)) hek.1 HEK.out.1 HEK.out.2.1 HEK.out.2.2.1)
      unfold entCells at HCM
      have hk' : ∀ w', Ext wr w' → w'.cell? ⟨w.heap.size, 0, none⟩ = some (.slice (some a) is.length c) ∧ w'.cell? (a.add (k * 7)) = some (.slice A1 ek.row.length d1) ∧ w'.cell? ⟨(a.add (k * 7)).block, (a.add (k * 7)).off + 1, none⟩ = some (.int .i64 ek.fam) ∧ w'.cell? ⟨(a.add (k * 7)).block, (a.add (k * 7)).off + 2, none⟩ = some (.slice A2 ek.qual.length d2) ∧ w'.cell? ⟨(a.add (k * 7)).block, (a.add (k * 7)).off + 3, none⟩ = some (.int .i64 ek.ts) ∧ w'.cell? ⟨(a.add (k * 7)).block, (a.add (k * 7)).off + 4, none⟩ = some (.int .i64 ek.seq) ∧ w'.cell? ⟨(a.add (k * 7)).block, (a.add (k * 7)).off + 5, none⟩ = some (.int .i64 ek.kind) ∧ w'.cell? ⟨(a.add (k * 7)).block, (a.add (k * 7)).off + 6, none⟩ = some (.slice A3 ek.value.length d3) ∧ w'.cell? ⟨w.heap.size + 1, 0, none⟩ = some r ∧ w'.cell? ⟨w.heap.size + 1, 1, none⟩ = some (.int .i64 e.fam) ∧ w'.cell? ⟨w.heap.size + 1, 2, none⟩ = some q ∧ w'.cell? ⟨w.heap.size + 1, 3, none⟩ = some (.int .i64 e.ts) ∧ w'.cell? ⟨w.heap.size + 1, 4, none⟩ = some (.int .i64 e.seq) ∧ w'.cell? ⟨w.heap.size + 1, 5, none⟩ = some (.int .i64 e.kind) ∧ w'.cell? ⟨w.heap.size + 1, 6, none⟩ = some x := by
        intro w' h
        have h1 := (HV1.out.ext (hEr.trans h)).cell
        have h2 := (HV2.out.ext (hEr.trans h)).cell
        refine ⟨by rw [h1]; rfl, h.cell c0, h.cell c1, h.cell c2, h.cell c3, h.cell c4, h.cell c5, h.cell c6, ?_, ?_, ?_, ?_, ?_, ?_, ?_⟩ <;> (rw [h2]; rfl)
      have HK := Lib.hid hk'
      have hdr : (is.map (·.e)).drop k = ek :: (is.map (·.e)).drop (k + 1) := by
        rw [List.drop_eq_getElem_cons (by simpa using hlt)]
        congr 1
        obtain ⟨h1, h2⟩ := List.getElem?_eq_some_iff.1 hit
        rw [List.getElem_map, h2]
      have HDR := Lib.hid hdr
      have HIT := Lib.hid hit
      have HRES := Lib.hid (show ∀ j y, j < k → (is.map (·.e))[j]? = some y → compareL y e < 0 from hres)
      have h10 : (0 : Int) ≤ (k : Int) := by omega
      have h11 : (k : Int) < (is.length : Int) := by omega
      clear hk' c0 c1 c2 c3 c4 c5 c6 hit hrk hek hres hdr
      obtain ⟨cc, hcc⟩ : ∃ cc, compareL ek e = cc := ⟨_, rfl⟩
      rw [hcc] at HCM
      have HCC := Lib.hid hcc
      clear hcc
      go_wp2_with fail
      clear hc1
      go_region_held3 (fun w' => w'.cell? ⟨w.heap.size, 0, none⟩ = some (.slice (some a) is.length c) ∧ w'.cell? (a.add (k * 7)) = some (.slice A1 ek.row.length d1) ∧ w'.cell? ⟨(a.add (k * 7)).block, (a.add (k * 7)).off + 1, none⟩ = some (.int .i64 ek.fam) ∧ w'.cell? ⟨(a.add (k * 7)).block, (a.add (k * 7)).off + 2, none⟩ = some (.slice A2 ek.qual.length d2) ∧ w'.cell? ⟨(a.add (k * 7)).block, (a.add (k * 7)).off + 3, none⟩ = some (.int .i64 ek.ts) ∧ w'.cell? ⟨(a.add (k * 7)).block, (a.add (k * 7)).off + 4, none⟩ = some (.int .i64 ek.seq) ∧ w'.cell? ⟨(a.add (k * 7)).block, (a.add (k * 7)).off + 5, none⟩ = some (.int .i64 ek.kind) ∧ w'.cell? ⟨(a.add (k * 7)).block, (a.add (k * 7)).off + 6, none⟩ = some (.slice A3 ek.value.length d3) ∧ w'.cell? ⟨w.heap.size + 1, 0, none⟩ = some r ∧ w'.cell? ⟨w.heap.size + 1, 1, none⟩ = some (.int .i64 e.fam) ∧ w'.cell? ⟨w.heap.size + 1, 2, none⟩ = some q ∧ w'.cell? ⟨w.heap.size + 1, 3, none⟩ = some (.int .i64 e.ts) ∧ w'.cell? ⟨w.heap.size + 1, 4, none⟩ = some (.int .i64 e.seq) ∧ w'.cell? ⟨w.heap.size + 1, 5, none⟩ = some (.int .i64 e.kind) ∧ w'.cell? ⟨w.heap.size + 1, 6, none⟩ = some x)
        (first | exact HK.out _ (Ext.refl _).drew | exact HK.out _ ((Ext.refl _).drew.trans he2))
        (first | (go_at_call 23; refine (HCM.out _ (Ext.refl _).drew).mono ?_; rintro e0 w2 ⟨rfl, he2⟩))
      have hE2 : Ext wr w2 := (Ext.refl _).drew.trans he2
      obtain ⟨k0, -⟩ := HK.out w2 hE2
      by_cases hneg : cc < 0
      · go_wp2
        go_roundg (gk - 1)
        case measure => omega
        case rel =>
          refine ⟨k + 1, by go_num, by omega, hEr.trans hE2, ?_⟩
          intro j y hj hy
          by_cases hjk : j = k
          · subst hjk
            rw [List.getElem?_map, HIT.out] at hy
            simp at hy
            subst hy
            rw [HCC.out]; exact hneg
          · exact HRES.out j y (by omega) hy
      · have hge : 0 ≤ cc := by omega
        clear hneg
        go_wp2_with fail
        go_region_held3 (fun w' => w'.cell? ⟨w.heap.size, 0, none⟩ = some (.slice (some a) is.length c) ∧ w'.cell? (a.add (k * 7)) = some (.slice A1 ek.row.length d1) ∧ w'.cell? ⟨(a.add (k * 7)).block, (a.add (k * 7)).off + 1, none⟩ = some (.int .i64 ek.fam) ∧ w'.cell? ⟨(a.add (k * 7)).block, (a.add (k * 7)).off + 2, none⟩ = some (.slice A2 ek.qual.length d2) ∧ w'.cell? ⟨(a.add (k * 7)).block, (a.add (k * 7)).off + 3, none⟩ = some (.int .i64 ek.ts) ∧ w'.cell? ⟨(a.add (k * 7)).block, (a.add (k * 7)).off + 4, none⟩ = some (.int .i64 ek.seq) ∧ w'.cell? ⟨(a.add (k * 7)).block, (a.add (k * 7)).off + 5, none⟩ = some (.int .i64 ek.kind) ∧ w'.cell? ⟨(a.add (k * 7)).block, (a.add (k * 7)).off + 6, none⟩ = some (.slice A3 ek.value.length d3) ∧ w'.cell? ⟨w.heap.size + 1, 0, none⟩ = some r ∧ w'.cell? ⟨w.heap.size + 1, 1, none⟩ = some (.int .i64 e.fam) ∧ w'.cell? ⟨w.heap.size + 1, 2, none⟩ = some q ∧ w'.cell? ⟨w.heap.size + 1, 3, none⟩ = some (.int .i64 e.ts) ∧ w'.cell? ⟨w.heap.size + 1, 4, none⟩ = some (.int .i64 e.seq) ∧ w'.cell? ⟨w.heap.size + 1, 5, none⟩ = some (.int .i64 e.kind) ∧ w'.cell? ⟨w.heap.size + 1, 6, none⟩ = some x)
          (first | exact HK.out _ hE2.drew | exact HK.out _ (hE2.drew.trans he3))
          (first | (go_at_call 23; refine (HCM.out _ hE2.drew).mono ?_; rintro e0 w3 ⟨rfl, he3⟩))
        have hE3' : Ext wr w3 := hE2.drew.trans he3
        clear k0
        by_cases h0 : cc = 0
        · have hPP : P = (is.map (·.e), false) := by
            rw [HP.out, HDR.out]
            simp only [addL, HCC.out, h0]
            simp only [Int.lt_irrefl, if_false, if_true]
            rw [← HDR.out, List.take_append_drop]
          have HPP := Lib.hid hPP
          have hcode : code = 80 := by rw [← HCODE.out, HPP.out]; simp
          subst hcode
          subst h0
          have hV9 := ((HV3.out.ext (hEr.trans hE3')).set 0 (.slice (some a) is.length c)).set 1 (.bool false)
          have hE9 := ((hEw.trans hE3').setCell (p := ⟨w.heap.size + 1 + 1, 0, none⟩) (by simp only; omega) (.slice (some a) is.length c)).setCell (p := ⟨w.heap.size + 1 + 1, 1, none⟩) (by simp only; omega) (.bool false)
          have k1 := (HV1.out.ext (hEr.trans hE3')).cell
          have z3 := (HV3.out.ext (hEr.trans hE3')).frozen
          have k3 := (HV3.out.ext (hEr.trans hE3')).cell
          obtain ⟨Y, hY⟩ : ∃ Y, (w3.setCell ⟨w.heap.size + 1 + 1, 0, none⟩ (.slice (some a) is.length c)).setCell ⟨w.heap.size + 1 + 1, 1, none⟩ (.bool false) = Y := ⟨_, rfl⟩
          rw [hY] at hV9 hE9
          have hc9 := hV9.cell
          go_wp2
          exact bodyPost_ret (v := .tuple #[.agg #[.slice (some a) is.length c, .bool false], .int .i64 80]) (by simp [results, Try.results6, go_sem, hc9]) rfl ⟨_, is, rfl, HL.out.ext hE9, by rw [← HP1.out, HPP.out], hE9⟩
        · have HINS := Lib.hid (show P.1 = (is.map (·.e)).take k ++ e :: (is.map (·.e)).drop k by
            rw [HP.out, HDR.out]
            simp only [addL, HCC.out]
            rw [if_neg (by omega), if_neg h0])
          have hP2 : P.2 = true := by
            rw [HP.out, HDR.out]
            simp only [addL, HCC.out]
            rw [if_neg (by omega), if_neg h0]
          have hcode : code = 0 := by rw [← HCODE.out, if_pos hP2]
          clear hP2
          subst hcode
          rw [HP1.out] at HINS
          have hb0 : (cc == 0) = false := by simpa using h0
          have hq : Ext X w3 := hEr.trans hE3'
          clear h0
          have hk2 : ((k : Nat) : Int) ≤ (is.length : Int) := by omega
          obtain ⟨nk, hnk⟩ : ∃ nk, is.length - k = nk := ⟨_, rfl⟩
          have hnk2 : nk ≤ 1000 := by omega
          have HNK := Lib.hid hnk
          clear hnk
          have hQ : w.heap.size + 1 + 1 < w3.heap.size := Nat.lt_of_lt_of_le hlt3 (hq).size
          have hcb := (HV2.out.ext hq).cell
          go_wp2_with fail
          refine (rcopied_ok r e.row w3 (HR.out.row.ext (hE.trans hq)) (by omega)).mono ?_
          rintro e0 y1 ⟨v1, rfl, ho1, hf1, he1⟩
          obtain ⟨B1, g1, rfl, -⟩ := ho1.rd.shape
          clear hcb 
          have hP1 := (HV2.out.ext hq).ext he1
          have hca := hP1.cell
          have hza := hP1.frozen
          obtain ⟨x1, hx1⟩ : ∃ x1, y1.setCell ⟨w.heap.size + 1, 0, none⟩ (.slice B1 e.row.length g1) = x1 := ⟨_, rfl⟩
          have hA1 := hP1.set 0 (.slice B1 e.row.length g1)
          have hT1 := ((HV1.out.ext hq).ext he1).set_other (b' := w.heap.size + 1) (by omega) 0 (.slice B1 e.row.length g1)
          have hR1 := ((HV3.out.ext hq).ext he1).set_other (b' := w.heap.size + 1) (by omega) 0 (.slice B1 e.row.length g1)
          have hE1 := ((hE.trans hq).trans he1).setCell (p := ⟨w.heap.size + 1, 0, none⟩) (by simp only; omega) (.slice B1 e.row.length g1)
          have hO1 := Ow.set_var ho1 (hf1.ne (b := w.heap.size + 1) (by omega)) 0 (.slice B1 e.row.length g1)
          have hs1 : w3.heap.size ≤ x1.heap.size := by have := he1.size; rw [← hx1]; simpa using this
          rw [hx1] at hA1 hT1 hR1 hE1 hO1
          have hcb := hA1.cell
          go_wp2_with fail
          refine (rcopied_ok q e.qual x1 (HR.out.qual.ext hE1) (by omega)).mono ?_
          rintro e0 y2 ⟨v2, rfl, ho2, hf2, he2⟩
          obtain ⟨B2, g2, rfl, -⟩ := ho2.rd.shape
          clear hcb hca hza hx1
          have hP2 := hA1.ext he2
          have hca := hP2.cell
          have hza := hP2.frozen
          obtain ⟨x2, hx2⟩ : ∃ x2, y2.setCell ⟨w.heap.size + 1, 2, none⟩ (.slice B2 e.qual.length g2) = x2 := ⟨_, rfl⟩
          have hA2 := hP2.set 2 (.slice B2 e.qual.length g2)
          have hT2 := (hT1.ext he2).set_other (b' := w.heap.size + 1) (by omega) 2 (.slice B2 e.qual.length g2)
          have hR2 := (hR1.ext he2).set_other (b' := w.heap.size + 1) (by omega) 2 (.slice B2 e.qual.length g2)
          have hE2 := (hE1.trans he2).setCell (p := ⟨w.heap.size + 1, 2, none⟩) (by simp only; omega) (.slice B2 e.qual.length g2)
          have hO2 := Ow.set_var ho2 (hf2.ne (b := w.heap.size + 1) (by omega)) 2 (.slice B2 e.qual.length g2)
          have hs2 : x1.heap.size ≤ x2.heap.size := by have := he2.size; rw [← hx2]; simpa using this
          have hO12 := Ow.set_var (Ow.ext hO1 he2) (hf1.ne (b := w.heap.size + 1) (by omega)) 2 (.slice B2 e.qual.length g2)
          rw [hx2] at hA2 hT2 hR2 hE2 hO2 hO12
          have hcb := hA2.cell
          go_wp2_with fail
          refine (rcopied_ok x e.value x2 (HR.out.value.ext hE2) (by omega)).mono ?_
          rintro e0 y3 ⟨v3, rfl, ho3, hf3, he3⟩
          obtain ⟨B3, g3, rfl, -⟩ := ho3.rd.shape
          clear hcb hca hza hx2
          have hP3 := hA2.ext he3
          have hca := hP3.cell
          have hza := hP3.frozen
          obtain ⟨x3, hx3⟩ : ∃ x3, y3.setCell ⟨w.heap.size + 1, 6, none⟩ (.slice B3 e.value.length g3) = x3 := ⟨_, rfl⟩
          have hA3 := hP3.set 6 (.slice B3 e.value.length g3)
          have hT3 := (hT2.ext he3).set_other (b' := w.heap.size + 1) (by omega) 6 (.slice B3 e.value.length g3)
          have hR3 := (hR2.ext he3).set_other (b' := w.heap.size + 1) (by omega) 6 (.slice B3 e.value.length g3)
          have hE3 := (hE2.trans he3).setCell (p := ⟨w.heap.size + 1, 6, none⟩) (by simp only; omega) (.slice B3 e.value.length g3)
          have hO3 := Ow.set_var ho3 (hf3.ne (b := w.heap.size + 1) (by omega)) 6 (.slice B3 e.value.length g3)
          have hs3 : x2.heap.size ≤ x3.heap.size := by have := he3.size; rw [← hx3]; simpa using this
          have hO13 := Ow.set_var (Ow.ext hO12 he3) (hf1.ne (b := w.heap.size + 1) (by omega)) 6 (.slice B3 e.value.length g3)
          have hO23 := Ow.set_var (Ow.ext hO2 he3) (hf2.ne (b := w.heap.size + 1) (by omega)) 6 (.slice B3 e.value.length g3)
          rw [hx3] at hA3 hT3 hR3 hE3 hO3 hO13 hO23
          have hcb := hA3.cell
          have hL3 := HL.out.ext hE3
          obtain ⟨A4, c4, hr4, hd4, -⟩ := run_cutE x3 hL3.row none (some (.int .i64 (k : Int))) 0 k (.inl ⟨rfl, rfl⟩) (.inr rfl) (by omega) hk (by omega)
          simp only [Nat.sub_zero, Nat.zero_mul, List.drop_zero] at hr4 hd4
          rw [flat_take] at hd4
          have ho4 : ∀ u ∈ flat (is.take k), u.oneCell' = true := fun u hu => hL3.one u (by rw [← flat_take] at hu; exact List.mem_of_mem_take hu)
          have ho5 : ∀ u ∈ flat (is.drop k), u.oneCell' = true := fun u hu => hL3.one u (by rw [← flat_drop] at hu; exact List.mem_of_mem_drop hu)
          have hlt4 : (is.take k).length = k := by rw [List.length_take]; omega
          have hlt5 : (is.drop k).length = nk := by rw [List.length_drop, HNK.out]
          have HRD := Lib.hid (show RdE x3 (.slice B1 e.row.length g1) (.slice B2 e.qual.length g2) (.slice B3 e.value.length g3) e from ⟨hO13.rd, hO23.rd, hO3.rd⟩)
          have hXq : X.heap.size ≤ w3.heap.size := (hq).size
          have HFE := Lib.hid (show FromE X.heap.size (.slice B1 e.row.length g1) (.slice B2 e.qual.length g2) (.slice B3 e.value.length g3) from ⟨hf1.mono hXq, hf2.mono (by omega), hf3.mono (by omega)⟩)
          have HA3 := Lib.hid hA3
          have HT3 := Lib.hid hT3
          have HR3 := Lib.hid hR3
          have HE3 := Lib.hid hE3
          have HD4 := Lib.hid hd4
          have HO4 := Lib.hid ho4
          have HO5 := Lib.hid ho5
          have hT3c := hT3.cell
          clear hA1 hA2 hA3 hT1 hT2 hT3 hR1 hR2 hR3 hE1 hE2 hE3 hO1 hO2 hO3 hO12 hO13 hO23 ho1 ho2 ho3 hf1 hf2 hf3 hP1 hP2 hP3 hd4 ho4 ho5 hL3
          have hxs : w.heap.size + 1 + 1 < x3.heap.size := by omega
          go_wp2_with (first
            | (
              at_builtin
              refine appE rfl (.tmp 63) (.tmp 67) rfl rfl rfl (Ow.nil x3 25 7) HD4.out HO4.out (by omega) ?_
              intro m1 z1 hm1 hg1 hat1
              rw [Nat.zero_add, List.nil_append] at hm1
              clear hr4 hcb hT3c hx3 hca hza
              have hw1 : Ext x3 z1 := (Ext.refl x3).grown hg1 (From.nil _ _ _)
              have hfm1 : From x3.heap.size m1 := From.app (From.nil x3.heap.size 0 0) hat1 (Nat.le_refl _)
              obtain ⟨M1, n1, rfl, -⟩ := Ow.shape hm1
              have hcb := (HA3.out.ext hw1).cell
              have hZE := (Ext.refl z1).alloc (.cells #[.slice B1 e.row.length g1, .int .i64 e.fam, .slice B2 e.qual.length g2, .int .i64 e.ts, .int .i64 e.seq, .int .i64 e.kind, .slice B3 e.value.length g3] 25)
              have hrl : Rd (z1.alloc (.cells #[.slice B1 e.row.length g1, .int .i64 e.fam, .slice B2 e.qual.length g2, .int .i64 e.ts, .int .i64 e.seq, .int .i64 e.kind, .slice B3 e.value.length g3] 25)) (.slice (some ⟨z1.heap.size, 0, none⟩) 1 1) 1 7 [.slice B1 e.row.length g1, .int .i64 e.fam, .slice B2 e.qual.length g2, .int .i64 e.ts, .int .i64 e.seq, .int .i64 e.kind, .slice B3 e.value.length g3] := Rd.lit z1 #[.slice B1 e.row.length g1, .int .i64 e.fam, .slice B2 e.qual.length g2, .int .i64 e.ts, .int .i64 e.seq, .int .i64 e.kind, .slice B3 e.value.length g3] 25 1 7 rfl
              obtain ⟨Z1, hZ1⟩ : ∃ Z1, z1.alloc (.cells #[.slice B1 e.row.length g1, .int .i64 e.fam, .slice B2 e.qual.length g2, .int .i64 e.ts, .int .i64 e.seq, .int .i64 e.kind, .slice B3 e.value.length g3] 25) = Z1 := ⟨_, rfl⟩
              rw [hZ1] at hZE hrl
              have HM1 := Lib.hid (Ow.ext hm1 hZE)
              have HRL := Lib.hid hrl
              clear hm1 hrl hg1 hat1
              have hsz : x3.heap.size ≤ Z1.heap.size := (hw1.trans hZE).size)
            | (
              at_builtin
              refine appE rfl (.tmp 69) (.tmp 71) rfl rfl rfl HM1.out HRL.out (by simp [Value.oneCell']) (by omega) ?_
              intro m2 z2 hm2 hg2 hat2
              have hw2 : Ext x3 z2 := Ext.grown (hw1.trans hZE) hg2 hfm1
              have hfm2 : From x3.heap.size m2 := From.app hfm1 hat2 hsz
              obtain ⟨M2, n2, rfl, -⟩ := Ow.shape hm2
              have hcc := (HT3.out.ext hw2).cell
              obtain ⟨A5, c5, hr5, hd5, -⟩ := run_cutE z2 (HL.out.ext (HE3.out.trans hw2)).row (some (.int .i64 (k : Int))) none k is.length (.inr rfl) (.inl ⟨rfl, rfl⟩) hk (Nat.le_refl _) (by omega)
              rw [List.take_of_length_le (by rw [flat_len]; exact Nat.le_refl _), flat_drop] at hd5
              rw [HNK.out] at hr5 hd5
              have HM2 := Lib.hid hm2
              have HD5 := Lib.hid hd5
              clear hm2 hd5 hg2 hat2)
            | (
              at_builtin
              refine appE rfl (.tmp 73) (.tmp 77) rfl rfl rfl HM2.out HD5.out HO5.out (by omega) ?_
              intro m3 z3 hm3 hg3 hat3
              clear hcc hr5
              have hw3 : Ext x3 z3 := Ext.grown hw2 hg3 hfm2
              have hfm3 : From x3.heap.size m3 := From.app hfm2 hat3 hw2.size
              obtain ⟨M3, n3, rfl, -⟩ := Ow.shape hm3
              have hT9 := (HT3.out.ext hw3).set 0 (.slice M3 (k + 1 + nk) n3)
              have hR9 := (((HR3.out.ext hw3).set_other (b' := w.heap.size) (by omega) 0 (.slice M3 (k + 1 + nk) n3)).set 0 (.slice M3 (k + 1 + nk) n3)).set 1 (.bool false)
              have hE9 := ((((HE3.out.trans hw3)).setCell (p := ⟨w.heap.size, 0, none⟩) (Nat.le_refl _) (.slice M3 (k + 1 + nk) n3)).setCell (p := ⟨w.heap.size + 1 + 1, 0, none⟩) (by simp only; omega) (.slice M3 (k + 1 + nk) n3)).setCell (p := ⟨w.heap.size + 1 + 1, 1, none⟩) (by simp only; omega) (.bool false)
              have hF9 : Fr (fun k => k < X.heap.size) z3 (((z3.setCell ⟨w.heap.size, 0, none⟩ (.slice M3 (k + 1 + nk) n3)).setCell ⟨w.heap.size + 1 + 1, 0, none⟩ (.slice M3 (k + 1 + nk) n3)).setCell ⟨w.heap.size + 1 + 1, 1, none⟩ (.bool false)) := (((Fr.set _ _ _ _).mono fun k _ hk => by subst hk; show w.heap.size < X.heap.size; omega).trans ((Fr.set _ _ _ _).mono fun k _ hk => by subst hk; exact hlt3)).trans ((Fr.set _ _ _ _).mono fun k _ hk => by subst hk; exact hlt3)
              have hM9 := Ow.set_var (Ow.set_var (Ow.set_var hm3 (hfm3.ne (b := w.heap.size) (by omega)) 0 (.slice M3 (k + 1 + nk) n3)) (hfm3.ne (b := w.heap.size + 1 + 1) (by omega)) 0 (.slice M3 (k + 1 + nk) n3)) (hfm3.ne (b := w.heap.size + 1 + 1) (by omega)) 1 (.bool false)
              have hc9t := (HT3.out.ext hw3).cell
              have hz9t := (HT3.out.ext hw3).frozen
              have hc9u := hT9.cell
              have hz9r := ((HR3.out.ext hw3).set_other (b' := w.heap.size) (by omega) 0 (.slice M3 (k + 1 + nk) n3)).frozen
              have hc9r := ((HR3.out.ext hw3).set_other (b' := w.heap.size) (by omega) 0 (.slice M3 (k + 1 + nk) n3)).cell
              obtain ⟨Y0, hY0⟩ : ∃ Y0, z3.setCell ⟨w.heap.size, 0, none⟩ (.slice M3 (k + 1 + nk) n3) = Y0 := ⟨_, rfl⟩
              rw [hY0] at hT9 hR9 hE9 hM9 hc9u hz9r hF9 hc9r
              obtain ⟨Y, hY⟩ : ∃ Y, (Y0.setCell ⟨w.heap.size + 1 + 1, 0, none⟩ (.slice M3 (k + 1 + nk) n3)).setCell ⟨w.heap.size + 1 + 1, 1, none⟩ (.bool false) = Y := ⟨_, rfl⟩
              rw [hY] at hR9 hE9 hM9 hF9
              have hc9 := hR9.cell
              have HM9 := Lib.hid hM9
              have HE9 := Lib.hid hE9
              have HF9 := Lib.hid hF9
              clear hM9 hE9 hm3 hF9))
          have hmm : (is.take k ++ ((⟨.slice B1 e.row.length g1, .slice B2 e.qual.length g2, .slice B3 e.value.length g3, e⟩ : Itm) :: is.drop k)).length = k + 1 + nk := by rw [List.length_append, List.length_cons, hlt4, hlt5]; omega
          have hff : flat (is.take k ++ ((⟨.slice B1 e.row.length g1, .slice B2 e.qual.length g2, .slice B3 e.value.length g3, e⟩ : Itm) :: is.drop k)) = flat (is.take k) ++ [.slice B1 e.row.length g1, .int .i64 e.fam, .slice B2 e.qual.length g2, .int .i64 e.ts, .int .i64 e.seq, .int .i64 e.kind, .slice B3 e.value.length g3] ++ flat (is.drop k) := by simp [flat]
          refine bodyPost_ret (v := .tuple #[.agg #[.slice M3 (k + 1 + nk) n3, .bool false], .int .i64 0]) (by simp [results, Try.results6, go_sem, hc9]) rfl ⟨_, is.take k ++ ((⟨.slice B1 e.row.length g1, .slice B2 e.qual.length g2, .slice B3 e.value.length g3, e⟩ : Itm) :: is.drop k), rfl, ⟨?_, ?_, ?_⟩, ?_, HE9.out⟩
          · rw [hmm, hff]
            exact HM9.out.rd
          · intro i hi
            rcases List.mem_append.1 hi with hi | hi
            · exact (HL.out.ext HE9.out).rd i (List.mem_of_mem_take hi)
            · rcases List.mem_cons.1 hi with rfl | hi
              · exact (HRD.out.ext hw3).fr HF9.out (fun b hb => hb) HFE.out
              · exact (HL.out.ext HE9.out).rd i (List.mem_of_mem_drop hi)
          · intro z hz
            rcases List.mem_cons.1 hz with rfl | hz
            · exact (hfm3.mono (by omega)).mono hNw
            · obtain ⟨i, hi, hz'⟩ := strs_mem hz
              rcases List.mem_append.1 hi with hi | hi
              · have hm := mem_strs (List.mem_of_mem_take hi)
                exact HL.out.frm z (List.mem_cons_of_mem _ (hz'.elim (fun e => e ▸ hm.1) fun h => h.elim (fun e => e ▸ hm.2.1) fun e => e ▸ hm.2.2))
              · rcases List.mem_cons.1 hi with rfl | hi
                · have hXN : N ≤ X.heap.size := Nat.le_trans hNw hE.size
                  rcases hz' with rfl | rfl | rfl
                  · exact HFE.out.1.mono hXN
                  · exact HFE.out.2.1.mono hXN
                  · exact HFE.out.2.2.mono hXN
                · have hm := mem_strs (List.mem_of_mem_drop hi)
                  exact HL.out.frm z (List.mem_cons_of_mem _ (hz'.elim (fun e => e ▸ hm.1) fun h => h.elim (fun e => e ▸ hm.2.1) fun e => e ▸ hm.2.2))
          · rw [HINS.out]
            simp

    · have hkl : k = is.length := by omega
      have hdr : (is.map (·.e)).drop k = [] := List.drop_eq_nil_of_le (by simp; omega)
      have HINS := Lib.hid (show P.1 = (is.map (·.e)).take k ++ e :: (is.map (·.e)).drop k by
        rw [HP.out, hdr]
        simp only [addL])
      have hcode : code = 0 := by
        rw [← HCODE.out, HP.out, hdr]
        simp [addL]
      rw [HP1.out] at HINS
      have hdd : decide ((k : Int) < (is.length : Int)) = false := by simp; omega
      have hdd2 : decide (k < is.length) = false := by simp; omega
      have hkl2 : is.length ≤ k := by omega
      clear hres hkl hlt hdr
      subst hcode
      go_wp2_with fail
      go_quiet (fail)
      obtain ⟨wa, hwa⟩ : ∃ wa, wr.drewN nq = wa := ⟨_, rfl⟩
      rw [hwa]
      have ha : Ext X wa := by rw [← hwa]; exact hEr.drewN nq
      clear hwa hc1
      have hc1 := (HV1.out.ext ha).cell
      go_wp2_with fail
      go_quiet (fail)
      obtain ⟨wq, hwq⟩ : ∃ wq, wa.drewN nq = wq := ⟨_, rfl⟩
      rw [hwq]
      have hq : Ext X wq := by rw [← hwq]; exact ha.drewN nq
      clear hwq hc1
      have hk2 : ((k : Nat) : Int) ≤ (is.length : Int) := by omega
      obtain ⟨nk, hnk⟩ : ∃ nk, is.length - k = nk := ⟨_, rfl⟩
      have hnk2 : nk ≤ 1000 := by omega
      have HNK := Lib.hid hnk
      clear hnk
      have hQ : w.heap.size + 1 + 1 < wq.heap.size := Nat.lt_of_lt_of_le hlt3 (hq).size
      have hcb := (HV2.out.ext hq).cell
      go_wp2_with fail
      refine (rcopied_ok r e.row wq (HR.out.row.ext (hE.trans hq)) (by omega)).mono ?_
      rintro e0 y1 ⟨v1, rfl, ho1, hf1, he1⟩
      obtain ⟨B1, g1, rfl, -⟩ := ho1.rd.shape
      clear hcb 
      have hP1 := (HV2.out.ext hq).ext he1
      have hca := hP1.cell
      have hza := hP1.frozen
      obtain ⟨x1, hx1⟩ : ∃ x1, y1.setCell ⟨w.heap.size + 1, 0, none⟩ (.slice B1 e.row.length g1) = x1 := ⟨_, rfl⟩
      have hA1 := hP1.set 0 (.slice B1 e.row.length g1)
      have hT1 := ((HV1.out.ext hq).ext he1).set_other (b' := w.heap.size + 1) (by omega) 0 (.slice B1 e.row.length g1)
      have hR1 := ((HV3.out.ext hq).ext he1).set_other (b' := w.heap.size + 1) (by omega) 0 (.slice B1 e.row.length g1)
      have hE1 := ((hE.trans hq).trans he1).setCell (p := ⟨w.heap.size + 1, 0, none⟩) (by simp only; omega) (.slice B1 e.row.length g1)
      have hO1 := Ow.set_var ho1 (hf1.ne (b := w.heap.size + 1) (by omega)) 0 (.slice B1 e.row.length g1)
      have hs1 : wq.heap.size ≤ x1.heap.size := by have := he1.size; rw [← hx1]; simpa using this
      rw [hx1] at hA1 hT1 hR1 hE1 hO1
      have hcb := hA1.cell
      go_wp2_with fail
      refine (rcopied_ok q e.qual x1 (HR.out.qual.ext hE1) (by omega)).mono ?_
      rintro e0 y2 ⟨v2, rfl, ho2, hf2, he2⟩
      obtain ⟨B2, g2, rfl, -⟩ := ho2.rd.shape
      clear hcb hca hza hx1
      have hP2 := hA1.ext he2
      have hca := hP2.cell
      have hza := hP2.frozen
      obtain ⟨x2, hx2⟩ : ∃ x2, y2.setCell ⟨w.heap.size + 1, 2, none⟩ (.slice B2 e.qual.length g2) = x2 := ⟨_, rfl⟩
      have hA2 := hP2.set 2 (.slice B2 e.qual.length g2)
      have hT2 := (hT1.ext he2).set_other (b' := w.heap.size + 1) (by omega) 2 (.slice B2 e.qual.length g2)
      have hR2 := (hR1.ext he2).set_other (b' := w.heap.size + 1) (by omega) 2 (.slice B2 e.qual.length g2)
      have hE2 := (hE1.trans he2).setCell (p := ⟨w.heap.size + 1, 2, none⟩) (by simp only; omega) (.slice B2 e.qual.length g2)
      have hO2 := Ow.set_var ho2 (hf2.ne (b := w.heap.size + 1) (by omega)) 2 (.slice B2 e.qual.length g2)
      have hs2 : x1.heap.size ≤ x2.heap.size := by have := he2.size; rw [← hx2]; simpa using this
      have hO12 := Ow.set_var (Ow.ext hO1 he2) (hf1.ne (b := w.heap.size + 1) (by omega)) 2 (.slice B2 e.qual.length g2)
      rw [hx2] at hA2 hT2 hR2 hE2 hO2 hO12
      have hcb := hA2.cell
      go_wp2_with fail
      refine (rcopied_ok x e.value x2 (HR.out.value.ext hE2) (by omega)).mono ?_
      rintro e0 y3 ⟨v3, rfl, ho3, hf3, he3⟩
      obtain ⟨B3, g3, rfl, -⟩ := ho3.rd.shape
      clear hcb hca hza hx2
      have hP3 := hA2.ext he3
      have hca := hP3.cell
      have hza := hP3.frozen
      obtain ⟨x3, hx3⟩ : ∃ x3, y3.setCell ⟨w.heap.size + 1, 6, none⟩ (.slice B3 e.value.length g3) = x3 := ⟨_, rfl⟩
      have hA3 := hP3.set 6 (.slice B3 e.value.length g3)
      have hT3 := (hT2.ext he3).set_other (b' := w.heap.size + 1) (by omega) 6 (.slice B3 e.value.length g3)
      have hR3 := (hR2.ext he3).set_other (b' := w.heap.size + 1) (by omega) 6 (.slice B3 e.value.length g3)
      have hE3 := (hE2.trans he3).setCell (p := ⟨w.heap.size + 1, 6, none⟩) (by simp only; omega) (.slice B3 e.value.length g3)
      have hO3 := Ow.set_var ho3 (hf3.ne (b := w.heap.size + 1) (by omega)) 6 (.slice B3 e.value.length g3)
      have hs3 : x2.heap.size ≤ x3.heap.size := by have := he3.size; rw [← hx3]; simpa using this
      have hO13 := Ow.set_var (Ow.ext hO12 he3) (hf1.ne (b := w.heap.size + 1) (by omega)) 6 (.slice B3 e.value.length g3)
      have hO23 := Ow.set_var (Ow.ext hO2 he3) (hf2.ne (b := w.heap.size + 1) (by omega)) 6 (.slice B3 e.value.length g3)
      rw [hx3] at hA3 hT3 hR3 hE3 hO3 hO13 hO23
      have hcb := hA3.cell
      have hL3 := HL.out.ext hE3
      obtain ⟨A4, c4, hr4, hd4, -⟩ := run_cutE x3 hL3.row none (some (.int .i64 (k : Int))) 0 k (.inl ⟨rfl, rfl⟩) (.inr rfl) (by omega) hk (by omega)
      simp only [Nat.sub_zero, Nat.zero_mul, List.drop_zero] at hr4 hd4
      rw [flat_take] at hd4
      have ho4 : ∀ u ∈ flat (is.take k), u.oneCell' = true := fun u hu => hL3.one u (by rw [← flat_take] at hu; exact List.mem_of_mem_take hu)
      have ho5 : ∀ u ∈ flat (is.drop k), u.oneCell' = true := fun u hu => hL3.one u (by rw [← flat_drop] at hu; exact List.mem_of_mem_drop hu)
      have hlt4 : (is.take k).length = k := by rw [List.length_take]; omega
      have hlt5 : (is.drop k).length = nk := by rw [List.length_drop, HNK.out]
      have HRD := Lib.hid (show RdE x3 (.slice B1 e.row.length g1) (.slice B2 e.qual.length g2) (.slice B3 e.value.length g3) e from ⟨hO13.rd, hO23.rd, hO3.rd⟩)
      have hXq : X.heap.size ≤ wq.heap.size := (hq).size
      have HFE := Lib.hid (show FromE X.heap.size (.slice B1 e.row.length g1) (.slice B2 e.qual.length g2) (.slice B3 e.value.length g3) from ⟨hf1.mono hXq, hf2.mono (by omega), hf3.mono (by omega)⟩)
      have HA3 := Lib.hid hA3
      have HT3 := Lib.hid hT3
      have HR3 := Lib.hid hR3
      have HE3 := Lib.hid hE3
      have HD4 := Lib.hid hd4
      have HO4 := Lib.hid ho4
      have HO5 := Lib.hid ho5
      have hT3c := hT3.cell
      clear hA1 hA2 hA3 hT1 hT2 hT3 hR1 hR2 hR3 hE1 hE2 hE3 hO1 hO2 hO3 hO12 hO13 hO23 ho1 ho2 ho3 hf1 hf2 hf3 hP1 hP2 hP3 hd4 ho4 ho5 hL3
      have hxs : w.heap.size + 1 + 1 < x3.heap.size := by omega
      go_wp2_with (first
        | (
          at_builtin
          refine appE rfl (.tmp 63) (.tmp 67) rfl rfl rfl (Ow.nil x3 25 7) HD4.out HO4.out (by omega) ?_
          intro m1 z1 hm1 hg1 hat1
          rw [Nat.zero_add, List.nil_append] at hm1
          clear hr4 hcb hT3c hx3 hca hza
          have hw1 : Ext x3 z1 := (Ext.refl x3).grown hg1 (From.nil _ _ _)
          have hfm1 : From x3.heap.size m1 := From.app (From.nil x3.heap.size 0 0) hat1 (Nat.le_refl _)
          obtain ⟨M1, n1, rfl, -⟩ := Ow.shape hm1
          have hcb := (HA3.out.ext hw1).cell
          have hZE := (Ext.refl z1).alloc (.cells #[.slice B1 e.row.length g1, .int .i64 e.fam, .slice B2 e.qual.length g2, .int .i64 e.ts, .int .i64 e.seq, .int .i64 e.kind, .slice B3 e.value.length g3] 25)
          have hrl : Rd (z1.alloc (.cells #[.slice B1 e.row.length g1, .int .i64 e.fam, .slice B2 e.qual.length g2, .int .i64 e.ts, .int .i64 e.seq, .int .i64 e.kind, .slice B3 e.value.length g3] 25)) (.slice (some ⟨z1.heap.size, 0, none⟩) 1 1) 1 7 [.slice B1 e.row.length g1, .int .i64 e.fam, .slice B2 e.qual.length g2, .int .i64 e.ts, .int .i64 e.seq, .int .i64 e.kind, .slice B3 e.value.length g3] := Rd.lit z1 #[.slice B1 e.row.length g1, .int .i64 e.fam, .slice B2 e.qual.length g2, .int .i64 e.ts, .int .i64 e.seq, .int .i64 e.kind, .slice B3 e.value.length g3] 25 1 7 rfl
          obtain ⟨Z1, hZ1⟩ : ∃ Z1, z1.alloc (.cells #[.slice B1 e.row.length g1, .int .i64 e.fam, .slice B2 e.qual.length g2, .int .i64 e.ts, .int .i64 e.seq, .int .i64 e.kind, .slice B3 e.value.length g3] 25) = Z1 := ⟨_, rfl⟩
          rw [hZ1] at hZE hrl
          have HM1 := Lib.hid (Ow.ext hm1 hZE)
          have HRL := Lib.hid hrl
          clear hm1 hrl hg1 hat1
          have hsz : x3.heap.size ≤ Z1.heap.size := (hw1.trans hZE).size)
        | (
          at_builtin
          refine appE rfl (.tmp 69) (.tmp 71) rfl rfl rfl HM1.out HRL.out (by simp [Value.oneCell']) (by omega) ?_
          intro m2 z2 hm2 hg2 hat2
          have hw2 : Ext x3 z2 := Ext.grown (hw1.trans hZE) hg2 hfm1
          have hfm2 : From x3.heap.size m2 := From.app hfm1 hat2 hsz
          obtain ⟨M2, n2, rfl, -⟩ := Ow.shape hm2
          have hcc := (HT3.out.ext hw2).cell
          obtain ⟨A5, c5, hr5, hd5, -⟩ := run_cutE z2 (HL.out.ext (HE3.out.trans hw2)).row (some (.int .i64 (k : Int))) none k is.length (.inr rfl) (.inl ⟨rfl, rfl⟩) hk (Nat.le_refl _) (by omega)
          rw [List.take_of_length_le (by rw [flat_len]; exact Nat.le_refl _), flat_drop] at hd5
          rw [HNK.out] at hr5 hd5
          have HM2 := Lib.hid hm2
          have HD5 := Lib.hid hd5
          clear hm2 hd5 hg2 hat2)
        | (
          at_builtin
          refine appE rfl (.tmp 73) (.tmp 77) rfl rfl rfl HM2.out HD5.out HO5.out (by omega) ?_
          intro m3 z3 hm3 hg3 hat3
          clear hcc hr5
          have hw3 : Ext x3 z3 := Ext.grown hw2 hg3 hfm2
          have hfm3 : From x3.heap.size m3 := From.app hfm2 hat3 hw2.size
          obtain ⟨M3, n3, rfl, -⟩ := Ow.shape hm3
          have hT9 := (HT3.out.ext hw3).set 0 (.slice M3 (k + 1 + nk) n3)
          have hR9 := (((HR3.out.ext hw3).set_other (b' := w.heap.size) (by omega) 0 (.slice M3 (k + 1 + nk) n3)).set 0 (.slice M3 (k + 1 + nk) n3)).set 1 (.bool false)
          have hE9 := ((((HE3.out.trans hw3)).setCell (p := ⟨w.heap.size, 0, none⟩) (Nat.le_refl _) (.slice M3 (k + 1 + nk) n3)).setCell (p := ⟨w.heap.size + 1 + 1, 0, none⟩) (by simp only; omega) (.slice M3 (k + 1 + nk) n3)).setCell (p := ⟨w.heap.size + 1 + 1, 1, none⟩) (by simp only; omega) (.bool false)
          have hF9 : Fr (fun k => k < X.heap.size) z3 (((z3.setCell ⟨w.heap.size, 0, none⟩ (.slice M3 (k + 1 + nk) n3)).setCell ⟨w.heap.size + 1 + 1, 0, none⟩ (.slice M3 (k + 1 + nk) n3)).setCell ⟨w.heap.size + 1 + 1, 1, none⟩ (.bool false)) := (((Fr.set _ _ _ _).mono fun k _ hk => by subst hk; show w.heap.size < X.heap.size; omega).trans ((Fr.set _ _ _ _).mono fun k _ hk => by subst hk; exact hlt3)).trans ((Fr.set _ _ _ _).mono fun k _ hk => by subst hk; exact hlt3)
          have hM9 := Ow.set_var (Ow.set_var (Ow.set_var hm3 (hfm3.ne (b := w.heap.size) (by omega)) 0 (.slice M3 (k + 1 + nk) n3)) (hfm3.ne (b := w.heap.size + 1 + 1) (by omega)) 0 (.slice M3 (k + 1 + nk) n3)) (hfm3.ne (b := w.heap.size + 1 + 1) (by omega)) 1 (.bool false)
          have hc9t := (HT3.out.ext hw3).cell
          have hz9t := (HT3.out.ext hw3).frozen
          have hc9u := hT9.cell
          have hz9r := ((HR3.out.ext hw3).set_other (b' := w.heap.size) (by omega) 0 (.slice M3 (k + 1 + nk) n3)).frozen
          have hc9r := ((HR3.out.ext hw3).set_other (b' := w.heap.size) (by omega) 0 (.slice M3 (k + 1 + nk) n3)).cell
          obtain ⟨Y0, hY0⟩ : ∃ Y0, z3.setCell ⟨w.heap.size, 0, none⟩ (.slice M3 (k + 1 + nk) n3) = Y0 := ⟨_, rfl⟩
          rw [hY0] at hT9 hR9 hE9 hM9 hc9u hz9r hF9 hc9r
          obtain ⟨Y, hY⟩ : ∃ Y, (Y0.setCell ⟨w.heap.size + 1 + 1, 0, none⟩ (.slice M3 (k + 1 + nk) n3)).setCell ⟨w.heap.size + 1 + 1, 1, none⟩ (.bool false) = Y := ⟨_, rfl⟩
          rw [hY] at hR9 hE9 hM9 hF9
          have hc9 := hR9.cell
          have HM9 := Lib.hid hM9
          have HE9 := Lib.hid hE9
          have HF9 := Lib.hid hF9
          clear hM9 hE9 hm3 hF9))
      have hmm : (is.take k ++ ((⟨.slice B1 e.row.length g1, .slice B2 e.qual.length g2, .slice B3 e.value.length g3, e⟩ : Itm) :: is.drop k)).length = k + 1 + nk := by rw [List.length_append, List.length_cons, hlt4, hlt5]; omega
      have hff : flat (is.take k ++ ((⟨.slice B1 e.row.length g1, .slice B2 e.qual.length g2, .slice B3 e.value.length g3, e⟩ : Itm) :: is.drop k)) = flat (is.take k) ++ [.slice B1 e.row.length g1, .int .i64 e.fam, .slice B2 e.qual.length g2, .int .i64 e.ts, .int .i64 e.seq, .int .i64 e.kind, .slice B3 e.value.length g3] ++ flat (is.drop k) := by simp [flat]
      refine bodyPost_ret (v := .tuple #[.agg #[.slice M3 (k + 1 + nk) n3, .bool false], .int .i64 0]) (by simp [results, Try.results6, go_sem, hc9]) rfl ⟨_, is.take k ++ ((⟨.slice B1 e.row.length g1, .slice B2 e.qual.length g2, .slice B3 e.value.length g3, e⟩ : Itm) :: is.drop k), rfl, ⟨?_, ?_, ?_⟩, ?_, HE9.out⟩
      · rw [hmm, hff]
        exact HM9.out.rd
      · intro i hi
        rcases List.mem_append.1 hi with hi | hi
        · exact (HL.out.ext HE9.out).rd i (List.mem_of_mem_take hi)
        · rcases List.mem_cons.1 hi with rfl | hi
          · exact (HRD.out.ext hw3).fr HF9.out (fun b hb => hb) HFE.out
          · exact (HL.out.ext HE9.out).rd i (List.mem_of_mem_drop hi)
      · intro z hz
        rcases List.mem_cons.1 hz with rfl | hz
        · exact (hfm3.mono (by omega)).mono hNw
        · obtain ⟨i, hi, hz'⟩ := strs_mem hz
          rcases List.mem_append.1 hi with hi | hi
          · have hm := mem_strs (List.mem_of_mem_take hi)
            exact HL.out.frm z (List.mem_cons_of_mem _ (hz'.elim (fun e => e ▸ hm.1) fun h => h.elim (fun e => e ▸ hm.2.1) fun e => e ▸ hm.2.2))
          · rcases List.mem_cons.1 hi with rfl | hi
            · have hXN : N ≤ X.heap.size := Nat.le_trans hNw hE.size
              rcases hz' with rfl | rfl | rfl
              · exact HFE.out.1.mono hXN
              · exact HFE.out.2.1.mono hXN
              · exact HFE.out.2.2.mono hXN
            · have hm := mem_strs (List.mem_of_mem_drop hi)
              exact HL.out.frm z (List.mem_cons_of_mem _ (hz'.elim (fun e => e ▸ hm.1) fun h => h.elim (fun e => e ▸ hm.2.1) fun e => e ▸ hm.2.2))
      · rw [HINS.out]
        simp


theorem rAdd_ok (Lv r q x : Value) (is : List Itm) (e : Ent) (N : Nat) (w : World) (hL : RL w N Lv is) (hNw : N ≤ w.heap.size) (hn : is.length ≤ 1000) (hok : ∀ i ∈ is, EOk i.e) (hr : RdE w r q x e) (he : EOk e) (hf : e.Fits) :
    Calls Try.prog 6 #[.agg #[Lv, .bool false], .agg (entCells r q x e)] w (OutA N w (refL e (is.map (·.e))) (refCode e (is.map (·.e)))) := by
  unfold refL refCode
  by_cases hc : checkL e = 0
  · rw [if_pos hc, if_pos hc]
    exact rAdd_good Lv r q x is e N w hL hNw hn hok hr he hf hc
  · rw [if_neg hc, if_neg hc]
    exact rAdd_bad Lv r q x is e N w hL hr hf hc
theorem check_cut (e : Ent) : checkL e.cut = checkL e := by
  have h : ∀ l : List Int, (l.take 5000).length = min 5000 l.length := fun l => List.length_take
  unfold checkL Ent.cut
  simp only [h, outN]
  have e1 : (((min 5000 e.row.length : Nat) : Int) < 1) = ((e.row.length : Int) < 1) := by apply propext; omega
  have e2 : ((256 : Int) < ((min 5000 e.row.length : Nat) : Int)) = ((256 : Int) < (e.row.length : Int)) := by apply propext; omega
  have e3 : (256 < min 5000 e.qual.length) = (256 < e.qual.length) := by apply propext; omega
  have e4 : (0 < min 5000 e.qual.length) = (0 < e.qual.length) := by apply propext; omega
  have e5 : (4096 < min 5000 e.value.length) = (4096 < e.value.length) := by apply propext; omega
  have e6 : (0 < min 5000 e.value.length) = (0 < e.value.length) := by apply propext; omega
  simp only [e1, e2, e3, e4, e5, e6]
  first | rfl | congr | ((repeat' split) <;> first | rfl | (exfalso; simp_all; done) | (exfalso; simp_all; omega))
theorem cut_ok (e : Ent) (h : checkL e = 0) : e.cut = e := by
  have hc := check_ok e h
  unfold Ent.cut
  rw [List.take_of_length_le (by omega), List.take_of_length_le (by omega), List.take_of_length_le (by omega)]
/-- The table's Add and the document's agree. -/
theorem add_agree (e : Ent) (t : Tr) (hs : Srt t.list) : addCode e t = refCode e.cut t.list ∧ (addTr e t).list = refL e.cut t.list ∧ Srt (addTr e t).list := by
  unfold addCode addTr refCode refL
  rw [check_cut]
  by_cases hc : checkL e = 0
  · rw [if_pos hc, if_pos hc, if_pos hc, if_pos hc, cut_ok e hc]
    obtain ⟨h1, h2⟩ := withT_list e t hs
    exact ⟨by rw [h1], h2, by rw [h2]; exact addL_srt e _ hs⟩
  · rw [if_neg hc, if_neg hc, if_neg hc, if_neg hc]
    exact ⟨rfl, rfl, hs⟩
end Go.Proofs.Ytckhefkedkipeaa

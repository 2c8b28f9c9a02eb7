/- The document's From: the list from an entry on. -/
import Derived.Test.YtckhefkedkipeaaMList
namespace Go.Proofs.Ytckhefkedkipeaa
open Go.RowKit
set_option linter.unusedVariables false

theorem infoE7 : (Try.prog.info? 25).map (·.size) = some 7 := by
  obtain ⟨i, hi, hz⟩ := Option.map_eq_some_iff.1 infoE
  simp only [Prod.mk.injEq] at hz
  rw [hi, Option.map_some, hz.2.1]
/-- A list of entries, cut. -/
theorem run_cutE (W : World) {A : Option Addr} {n c : Nat} {xs : List Value} (hv : Rd W (.slice A n c) n 7 xs) (lo hi : Option Value) (l h : Nat)
    (hlo : lo = none ∧ l = 0 ∨ lo = some (.int .i64 (l : Int))) (hhi : hi = none ∧ h = n ∨ hi = some (.int .i64 (h : Int))) (hlh : l ≤ h) (hn : h ≤ n) (hmax : n ≤ 100000) :
    ∃ A' c', (Instr.sliceAt 22 (.slice A n c) lo hi none).run Try.prog W = .ok (.slice A' (h - l) c') W ∧ Rd W (.slice A' (h - l) c') (h - l) 7 ((xs.take (h * 7)).drop (l * 7)) ∧ ∀ k, (Value.slice A' (h - l) c').ownBlock = some k → (Value.slice A n c).ownBlock = some k := by
  obtain ⟨v', h1, h2⟩ := run_slice_rd (P := Try.prog) W 22 25 7 Try.underlying22 infoE7 hv lo hi l h (hlo.imp_right fun e => ⟨_, e⟩) (hhi.imp_right fun e => ⟨_, e⟩) hlh hn (by omega)
  obtain ⟨i, hi', hsz⟩ := Option.map_eq_some_iff.1 infoE7
  have hnc : n ≤ c := by
    obtain ⟨_, A', c', e, h3, _⟩ := hv
    cases e
    exact h3
  have wl : IntKind.i64.wrap (l : Int) = l := by rw [IntKind.wrap_i64]; omega
  have wh : IntKind.i64.wrap (h : Int) = h := by rw [IntKind.wrap_i64]; omega
  have hx : (Instr.sliceAt 22 (.slice A n c) lo hi none).run Try.prog W = .ok (.slice (if c = l then A else A.map (·.add (l * i.size))) (h - l) (c - l)) W := by
    rcases hlo with ⟨rfl, rfl⟩ | rfl <;> rcases hhi with ⟨rfl, rfl⟩ | rfl
    · simp [Instr.sliceAt, Instr.slice, run_underlying Try.underlying22, Instr.sliceBounds, sizeOf, typeInfo, hi']
    · simp [Instr.sliceAt, Instr.slice, run_underlying Try.underlying22, Instr.sliceBounds, Instr.sliceBound, asIntOf, sizeOf, typeInfo, hi', Nat.le_trans hn hnc]
    · simp [Instr.sliceAt, Instr.slice, run_underlying Try.underlying22, Instr.sliceBounds, Instr.sliceBound, asIntOf, sizeOf, typeInfo, hi', hlh]
    · simp [Instr.sliceAt, Instr.slice, run_underlying Try.underlying22, Instr.sliceBounds, Instr.sliceBound, asIntOf, sizeOf, typeInfo, hi', Nat.le_trans hn hnc, hlh]
  have hv' : v' = .slice (if c = l then A else A.map (·.add (l * i.size))) (h - l) (c - l) := by
    rw [h1] at hx
    cases hx
    rfl
  subst hv'
  refine ⟨_, _, h1, h2, fun k hk => ?_⟩
  split at hk
  · cases A with
    | none => simp [Value.ownBlock] at hk
    | some a => simpa [Value.ownBlock] using hk
  · cases A with
    | none => simp [Value.ownBlock] at hk
    | some a =>
      have e : (a.add (l * i.size)).block = a.block := by unfold Addr.add; split <;> rfl
      simpa [Value.ownBlock, e] using hk
theorem flat_drop (is : List Itm) (k : Nat) : (flat is).drop (k * 7) = flat (is.drop k) := by
  induction is generalizing k with
  | nil => simp [flat]
  | cons i is ih =>
    cases k with
    | zero => simp
    | succ k =>
      have e : (k + 1) * 7 = k * 7 + 7 := by omega
      rw [e]
      simpa [flat] using ih k
theorem flat_take (is : List Itm) (k : Nat) : (flat is).take (k * 7) = flat (is.take k) := by
  induction is generalizing k with
  | nil => simp [flat]
  | cons i is ih =>
    cases k with
    | zero => simp [flat]
    | succ k =>
      have e : (k + 1) * 7 = k * 7 + 7 := by omega
      rw [e]
      simpa [flat] using ih k
theorem RL.drop {W : World} {N : Nat} {v v' : Value} {is : List Itm} {k : Nat} (h : RL W N v is) (hk : k ≤ is.length) (hr : Rd W v' (is.length - k) 7 (((flat is).take (is.length * 7)).drop (k * 7))) (ho : ∀ b, v'.ownBlock = some b → v.ownBlock = some b) : RL W N v' (is.drop k) := by
  rw [List.take_of_length_le (by rw [flat_len]; exact Nat.le_refl _), flat_drop] at hr
  refine ⟨by rw [List.length_drop]; exact hr, fun i hi => h.rd i (List.mem_of_mem_drop hi), ?_⟩
  intro z hz
  rcases List.mem_cons.1 hz with rfl | hz
  · intro b hb; exact h.frm v (by simp) b (ho b hb)
  · obtain ⟨j, hj, hz'⟩ := strs_mem hz
    have hm := mem_strs (List.mem_of_mem_drop hj)
    refine h.frm z (List.mem_cons_of_mem _ ?_)
    exact hz'.elim (fun e => e ▸ hm.1) fun h => h.elim (fun e => e ▸ hm.2.1) fun e => e ▸ hm.2.2

/-- An entry of true bytes, none too long. -/
def EOk (e : Ent) : Prop := e.BytesOk ∧ e.row.length ≤ 140737488351232 ∧ e.qual.length ≤ 140737488351232 ∧ e.value.length ≤ 140737488351232
theorem fromL_step (x : Ent) (l : List Ent) (k : Nat) (e : Ent) (h : l[k]? = some e) (hk : fromL x l = fromL x (l.drop k)) : (compareL e x < 0 → fromL x l = fromL x (l.drop (k + 1))) ∧ (¬ compareL e x < 0 → fromL x l = l.drop k) := by
  obtain ⟨hlt, he⟩ := List.getElem?_eq_some_iff.1 h
  have h1 : l.drop k = e :: l.drop (k + 1) := by rw [List.drop_eq_getElem_cons hlt, he]
  rw [hk, h1]
  unfold fromL
  rw [List.dropWhile_cons]
  constructor
  · intro h2; rw [if_pos (by simpa using h2)]
  · intro h2; rw [if_neg (by simpa using h2)]
/-- A part of a list that was there. -/
def OutPL (N : Nat) (w : World) (es : List Ent) (e0 : Ending) (w' : World) : Prop := ∃ v is, e0 = .returned v ∧ RL w' N v is ∧ is.map (·.e) = es ∧ Ext w w'

set_option maxHeartbeats 4000000 in
set_option maxRecDepth 100000 in
theorem rFrom_ok (Lv r q x : Value) (is : List Itm) (e : Ent) (cold : Bool) (N : Nat) (w : World) (hL : RL w N Lv is) (hn : is.length ≤ 1000) (hok : ∀ i ∈ is, EOk i.e) (hr : RdE w r q x e) (he : EOk e) :
    Calls Try.prog 11 #[.agg #[Lv, .bool cold], .agg (entCells r q x e)] w (OutPL N w (fromL e (is.map (·.e)))) := by
  obtain ⟨_, A, c, rfl, hc, _⟩ := hL.row
  have hV1 := (Var.new w #[.slice A is.length c, .bool cold] 30).alloc (.cells (entCells r q x e) 25)
  have hV2 := Var.new (w.alloc (.cells #[.slice A is.length c, .bool cold] 30)) (entCells r q x e) 25
  have hE := ((Ext.refl w).alloc (.cells #[.slice A is.length c, .bool cold] 30)).alloc (.cells (entCells r q x e) 25)
  unfold entCells at hV1 hV2 hE ⊢
  obtain ⟨X, hX⟩ : ∃ X, ((w.alloc (.cells #[.slice A is.length c, .bool cold] 30)).alloc (.cells #[r, .int .i64 e.fam, q, .int .i64 e.ts, .int .i64 e.seq, .int .i64 e.kind, x] 25)) = X := ⟨_, rfl⟩
  rw [hX] at hV1 hV2 hE
  rw [World.size_alloc] at hV2
  have HV1 := Lib.hid hV1
  have HV2 := Lib.hid hV2
  have HL := Lib.hid hL
  have HR := Lib.hid hr
  have HOK := Lib.hid hok
  have HEK := Lib.hid he
  have hb1 : w.heap.size + 1 < X.heap.size := hV2.lt
  clear hV1 hV2 hL hr hok he
  obtain ⟨R, hR⟩ : ∃ R, fromL e (is.map (·.e)) = R := ⟨_, rfl⟩
  rw [hR]
  have HRR := Lib.hid hR
  clear hR
  go_enter Try.func11, Try.ntmps11
  go_wp2_with fail
  clear hX
  go_loopg [5] is.length (fun g y wr => ∃ k : Nat, y = .int .i64 k ∧ k + g = is.length ∧ Ext X wr ∧ Hid (fromL e ((is.map (·.e)).drop k) = R))
  case atStart => exact ⟨0, rfl, by omega, Ext.refl _, HRR.out⟩
  case round =>
    obtain ⟨k, rfl, hkg, hEr, hres⟩ := hrel
    have hEw : Ext w wr := hE.trans hEr
    have hc1 := (HV1.out.ext hEr).cell
    by_cases hlt : k < is.length
    · obtain ⟨a, A1, d1, A2, d2, A3, d3, ek, rfl, hit, hrk, c0, c1, c2, c3, c4, c5, c6⟩ := (HL.out.ext hEw).at_ k hlt
      have hst := fromL_step e ((is.map (·.e)).drop k) 0 ek (by simp [hit]) (by simp)
      have hek := HOK.out _ (List.mem_of_getElem? hit)
      have HC := Lib.hid (fun W' (h : Ext wr W') => rCompare_ok _ _ _ r q x ek e W' (hrk.ext h) (HR.out.ext (hEw.trans h)) hek.1 HEK.out.1 HEK.out.2.1 HEK.out.2.2.1)
      unfold entCells at HC
      have hk : ∀ w', Ext wr w' → w'.cell? ⟨w.heap.size, 0, none⟩ = some (.slice (some a) is.length c) ∧ w'.cell? (a.add (k * 7)) = some (.slice A1 ek.row.length d1) ∧ w'.cell? ⟨(a.add (k * 7)).block, (a.add (k * 7)).off + 1, none⟩ = some (.int .i64 ek.fam) ∧ w'.cell? ⟨(a.add (k * 7)).block, (a.add (k * 7)).off + 2, none⟩ = some (.slice A2 ek.qual.length d2) ∧ w'.cell? ⟨(a.add (k * 7)).block, (a.add (k * 7)).off + 3, none⟩ = some (.int .i64 ek.ts) ∧ w'.cell? ⟨(a.add (k * 7)).block, (a.add (k * 7)).off + 4, none⟩ = some (.int .i64 ek.seq) ∧ w'.cell? ⟨(a.add (k * 7)).block, (a.add (k * 7)).off + 5, none⟩ = some (.int .i64 ek.kind) ∧ w'.cell? ⟨(a.add (k * 7)).block, (a.add (k * 7)).off + 6, none⟩ = some (.slice A3 ek.value.length d3) ∧ w'.cell? ⟨w.heap.size + 1, 0, none⟩ = some r ∧ w'.cell? ⟨w.heap.size + 1, 1, none⟩ = some (.int .i64 e.fam) ∧ w'.cell? ⟨w.heap.size + 1, 2, none⟩ = some q ∧ w'.cell? ⟨w.heap.size + 1, 3, none⟩ = some (.int .i64 e.ts) ∧ w'.cell? ⟨w.heap.size + 1, 4, none⟩ = some (.int .i64 e.seq) ∧ w'.cell? ⟨w.heap.size + 1, 5, none⟩ = some (.int .i64 e.kind) ∧ w'.cell? ⟨w.heap.size + 1, 6, none⟩ = some x := by
        intro w' h
        have h1 := (HV1.out.ext (hEr.trans h)).cell
        have h2 := (HV2.out.ext (hEr.trans h)).cell
        refine ⟨by rw [h1]; rfl, h.cell c0, h.cell c1, h.cell c2, h.cell c3, h.cell c4, h.cell c5, h.cell c6, ?_, ?_, ?_, ?_, ?_, ?_, ?_⟩ <;> (rw [h2]; rfl)
      have HK := Lib.hid hk
      have HRK := Lib.hid (show fromL e ((is.map (·.e)).drop k) = R from hres)
      rw [List.drop_drop, List.drop_zero] at hst
      have HST := Lib.hid hst
      have h10 : (0 : Int) ≤ (k : Int) := by omega
      have h11 : (k : Int) < (is.length : Int) := by omega
      clear hk c0 c1 c2 c3 c4 c5 c6 hit hrk hek hst hres
      generalize compareL ek e = cc at *
      go_wp2_with fail
      clear hc1
      go_region_held3 (fun w' => w'.cell? ⟨w.heap.size, 0, none⟩ = some (.slice (some a) is.length c) ∧ w'.cell? (a.add (k * 7)) = some (.slice A1 ek.row.length d1) ∧ w'.cell? ⟨(a.add (k * 7)).block, (a.add (k * 7)).off + 1, none⟩ = some (.int .i64 ek.fam) ∧ w'.cell? ⟨(a.add (k * 7)).block, (a.add (k * 7)).off + 2, none⟩ = some (.slice A2 ek.qual.length d2) ∧ w'.cell? ⟨(a.add (k * 7)).block, (a.add (k * 7)).off + 3, none⟩ = some (.int .i64 ek.ts) ∧ w'.cell? ⟨(a.add (k * 7)).block, (a.add (k * 7)).off + 4, none⟩ = some (.int .i64 ek.seq) ∧ w'.cell? ⟨(a.add (k * 7)).block, (a.add (k * 7)).off + 5, none⟩ = some (.int .i64 ek.kind) ∧ w'.cell? ⟨(a.add (k * 7)).block, (a.add (k * 7)).off + 6, none⟩ = some (.slice A3 ek.value.length d3) ∧ w'.cell? ⟨w.heap.size + 1, 0, none⟩ = some r ∧ w'.cell? ⟨w.heap.size + 1, 1, none⟩ = some (.int .i64 e.fam) ∧ w'.cell? ⟨w.heap.size + 1, 2, none⟩ = some q ∧ w'.cell? ⟨w.heap.size + 1, 3, none⟩ = some (.int .i64 e.ts) ∧ w'.cell? ⟨w.heap.size + 1, 4, none⟩ = some (.int .i64 e.seq) ∧ w'.cell? ⟨w.heap.size + 1, 5, none⟩ = some (.int .i64 e.kind) ∧ w'.cell? ⟨w.heap.size + 1, 6, none⟩ = some x)
        (first | exact HK.out _ (Ext.refl _).drew | exact HK.out _ ((Ext.refl _).drew.trans he1))
        (first | (go_at_call 23; refine (HC.out _ (Ext.refl _).drew).mono ?_; rintro e0 w1 ⟨rfl, he1⟩))
      have hE1 : Ext wr w1 := (Ext.refl _).drew.trans he1
      obtain ⟨k0, -⟩ := HK.out w1 hE1
      by_cases hcc : cc < 0
      · go_wp2
        go_roundg (gk - 1)
        case measure => omega
        case rel => exact ⟨k + 1, by go_num, by omega, hEr.trans hE1, by rw [← HST.out.1 hcc]; exact HRK.out⟩
      · obtain ⟨A', c', hrun, hrd, hob⟩ := run_cutE w1 ((HL.out.ext (hEw.trans hE1)).row) (some (.int .i64 (k : Int))) none k is.length (.inr rfl) (.inl ⟨rfl, rfl⟩) (by omega) (Nat.le_refl _) (by omega)
        have HD := Lib.hid ((HL.out.ext (hEw.trans hE1)).drop (k := k) (by omega) hrd hob)
        have hcc2 : 0 ≤ cc := by omega
        clear hrd hob
        go_wp2
        go_ret
        exact ⟨_, is.drop k, rfl, HD.out, by rw [← HRK.out, HST.out.2 hcc, List.map_drop], hEw.trans hE1⟩
    · have hkl : is.length ≤ k := by omega
      have HRK := Lib.hid (show fromL e ((is.map (·.e)).drop k) = R from hres)
      clear hres
      go_wp2
      go_ret
      refine ⟨_, [], rfl, ⟨by simpa [flat] using Rd.nil wr 7, by simp, by intro z hz; simp [strs] at hz; subst hz; exact From.nil _ _ _⟩, ?_, hEw⟩
      rw [← HRK.out, List.drop_eq_nil_of_le (by simp; omega)]
      rfl
end Go.Proofs.Ytckhefkedkipeaa

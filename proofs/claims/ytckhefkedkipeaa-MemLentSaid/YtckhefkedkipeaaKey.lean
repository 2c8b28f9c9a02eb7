/- Package cell: keys and packed entries, written. -/
import Derived.Test.YtckhefkedkipeaaOrder
import Derived.Deep.DeepCutAuto
namespace Go.Proofs.Ytckhefkedkipeaa
open Go.RowKit

theorem check_ok (e : Ent) (h : checkL e = 0) : e.row.length ≤ 256 ∧ 1 ≤ e.row.length ∧ e.qual.length ≤ 256 ∧ e.value.length ≤ 4096 ∧ 1 ≤ e.ts ∧ e.ts ≤ 1099511627776 ∧ 0 ≤ e.seq ∧ e.seq ≤ 17592186044431 ∧ 0 ≤ e.fam ∧ e.fam ≤ 7 ∧ 1 ≤ e.kind ∧ e.kind ≤ 5 ∧
    (e.kind = 5 → e.qual = []) ∧ (e.kind ≠ 1 → e.value = []) := by
  unfold checkL at h
  repeat' split at h
  all_goals first | (simp at h; done) | skip
  rename_i h1 h2 h3 h4 h5 h6 h7
  simp only [outN, Bool.or_eq_true, decide_eq_true_eq, not_or, Int.not_lt] at h1 h2 h4 h5 h6
  refine ⟨by omega, by omega, by omega, by omega, by omega, by omega, by omega, by omega, by omega, by omega, by omega, by omega, fun hk => ?_, fun hk => ?_⟩
  · exact List.eq_nil_of_length_eq_zero (by omega)
  · exact List.eq_nil_of_length_eq_zero (by omega)

def keyHead (e : Ent) : List Int := orderedL e.row ++ [e.fam, flagN (e.kind == 5)]
def keyMid (e : Ent) : List Int := if e.kind = 5 then keyHead e else keyHead e ++ orderedL e.qual ++ [flagN (e.kind == 4)]
def keyBody (e : Ent) : List Int := keyMid e ++ (fallingL e.ts).1 ++ (fallingL e.seq).1 ++ [e.kind]
/-- The key of an entry, or the fault. -/
def keyL (e : Ent) : List Int × Int := if checkL e = 0 then (keyBody e, 0) else ([], checkL e)

theorem orderedL_len (l : List Int) : (orderedL l).length ≤ 2 * l.length + 2 := by
  have := ordP_len l
  simp [orderedL]; omega
theorem falling_len (n : Int) (h0 : 0 ≤ n) (h1 : n ≤ 9223372036854775807) : fallingL n = (be 8 (9223372036854775807 - n), 0) := by
  unfold fallingL risingL
  rw [if_neg (by omega), if_neg (by omega)]

def keyRel (e : Ent) (T1 T2 : List Int) (i b : Value) (wr : World) : Prop :=
  (i = .int .i64 0 ∧ OwB wr b (keyMid e)) ∨ (i = .int .i64 1 ∧ OwB wr b (keyMid e ++ T1)) ∨ (i = .int .i64 2 ∧ OwB wr b (keyMid e ++ T1 ++ T2))
theorem two_0 (a b : Int) (w : World) : (Instr.index 81 (.agg #[.int .i64 a, .int .i64 b]) (.int .i64 0)).run Try.prog w = .ok (.int .i64 a) w := by kernel_rfl
theorem two_1 (a b : Int) (w : World) : (Instr.index 81 (.agg #[.int .i64 a, .int .i64 b]) (.int .i64 1)).run Try.prog w = .ok (.int .i64 b) w := by kernel_rfl

set_option maxHeartbeats 1000000 in
set_option maxRecDepth 100000 in
theorem Key_ok (r q x : Value) (e : Ent) (w : World) (hr : RdE w r q x e) (hf : e.Fits) : Calls Try.prog 40 #[.agg (entCells r q x e)] w (OutBN w (keyL e)) := by
  have hck := fun (W : World) (h : Ext w W) => Check_ok r q x e W (hr.ext h) hf
  by_cases hc : checkL e = 0
  case neg =>
    have hk : keyL e = ([], checkL e) := by unfold keyL; rw [if_neg hc]
    rw [hk]
    have hb : ((checkL e : Int) != 0) = true := by simpa using hc
    generalize checkL e = c at *
    have HC := Lib.hid hck
    clear hck hc hk
    unfold entCells at *
    go_enter Try.func40, Try.ntmps40
    go_wp2_with (refine (HC.out _ ((Ext.refl _).alloc _)).mono ?_; rintro e w' ⟨rfl, he⟩)
    go_ret2
    exact ⟨_, rfl, OwB.nil _, From.nil _ _ _, ((Ext.refl _).alloc _).trans he⟩
  case pos =>
    have hk : keyL e = (keyBody e, 0) := by unfold keyL; rw [if_pos hc]
    rw [hk]
    obtain ⟨k1, k2, k3, k4, k5, k6, k7, k8, k9, k10, k11, k12, k13, _⟩ := check_ok e hc
    rw [hc] at hck
    have HC := Lib.hid hck
    have hl1 := orderedL_len e.row
    have hl2 := orderedL_len e.qual
    have F1 := fun W => Falling_ok e.ts (by omega) (by omega) W
    have F2 := fun W => Falling_ok e.seq (by omega) (by omega) W
    have hbd : keyBody e = keyMid e ++ be 8 (9223372036854775807 - e.ts) ++ be 8 (9223372036854775807 - e.seq) ++ [e.kind] := by
      unfold keyBody
      rw [falling_len e.ts (by omega) (by omega), falling_len e.seq (by omega) (by omega)]
    rw [falling_len e.ts (by omega) (by omega)] at F1
    rw [falling_len e.seq (by omega) (by omega)] at F2
    have HF1 := Lib.hid F1
    have HF2 := Lib.hid F2
    have HB := Lib.hid hbd
    have hb1 := be_len 8 (9223372036854775807 - e.ts)
    have hb2 := be_len 8 (9223372036854775807 - e.seq)
    generalize be 8 (9223372036854775807 - e.ts) = T1 at *
    generalize be 8 (9223372036854775807 - e.seq) = T2 at *
    have hb1' : T1.length ≤ 8 := by omega
    have hb2' : T2.length ≤ 8 := by omega
    clear F1 F2 hbd hb1 hb2
    clear hck hk hc k13
    have hW : Ext w (w.alloc (.cells (entCells r q x e) 25)) := (Ext.refl _).alloc _
    have hcell : ∀ o, (w.alloc (.cells (entCells r q x e) 25)).cell? ⟨w.heap.size, o, none⟩ = (entCells r q x e)[o]? := fun o => by simp [entCells]
    generalize hWg : w.alloc (.cells (entCells r q x e) 25) = W at *
    have hlt : w.heap.size < W.heap.size := by rw [← hWg]; simp
    unfold entCells at *
    go_enter Try.func40, Try.ntmps40
    go_wp2_with fail

    clear hWg
    refine (HC.out _ hW).mono ?_
    rintro e0 w1 ⟨rfl, he1⟩
    have hcs := fun o => (he1.cells _ o hlt).trans (hcell o)
    have hR : ∀ {w2 : World}, Ext W w2 → RdE w2 r q x e := fun h => hr.ext (hW.trans h)
    have HR := Lib.hid hr
    clear hr hR HC
    go_wp2_with fail
    have keepS : ∀ w', Ext w1 w' → w'.cell? ⟨w.heap.size, 0, none⟩ = some r ∧ w'.cell? ⟨w.heap.size, 1, none⟩ = some (.int .i64 e.fam) ∧ w'.cell? ⟨w.heap.size, 5, none⟩ = some (.int .i64 e.kind) ∧ Ext w1 w' :=
      fun w' h => ⟨h.cell (hcs 0), h.cell (hcs 1), h.cell (hcs 5), h⟩
    have HE := Lib.hid (hW.trans he1)
    have ewf : IntKind.u8.wrap e.fam = e.fam := by rw [IntKind.wrap_u8]; omega
    have hlt1 : w.heap.size < w1.heap.size := Nat.lt_of_lt_of_le hlt he1.size
    have HK := Lib.hid keepS
    clear keepS hcell he1 hW hf
    go_region_held3 (fun w' => w'.cell? ⟨w.heap.size, 0, none⟩ = some r ∧ w'.cell? ⟨w.heap.size, 1, none⟩ = some (.int .i64 e.fam) ∧ w'.cell? ⟨w.heap.size, 5, none⟩ = some (.int .i64 e.kind) ∧ Ext w1 w')
      (first | exact HK.out _ (Ext.refl _).drew | (go_split_ands; refine HK.out _ (Ext.alloc ?_ _); assumption) | (go_split_ands; refine HK.out _ (Ext.trans ?_ he2); assumption) | (go_split_ands; refine HK.out _ (Ext.grown ?_ hg4 hf2); assumption))
      (first
        | (go_at_call 61; go_split_ands; refine (Ordered_ok _ _ _ (HR.out.row.ext (HE.out.trans (by assumption))) (by omega)).mono ?_; rintro e0 w2 ⟨v17, rfl, ho2, hf2, he2⟩)
        | (go_at_call 62; refine (flag_ok _ _).mono ?_; rintro e0 w3 ⟨rfl, rfl⟩)
        | (go_split_ands; refine stepB rfl (.tmp 17) (.tmp 25) rfl rfl rfl (ho2.alloc _) (RdB.lit w2 [_, _]) (by simp; omega) ?_; intro v26 w4 ho4 hg4 hat4))
    have he4 : Ext w1 w4 := (((Ext.refl w1).drew.trans he2).alloc _).grown hg4 hf2
    have hf4 : From w1.heap.size v26 := From.app hf2 hat4 (((Ext.refl w1).drew.trans he2).alloc _).size
    have ho4' : OwB w4 v26 (keyHead e) := ho4
    have hcell4 : ∀ o, w4.cell? ⟨w.heap.size, o, none⟩ = #[r, Value.int .i64 e.fam, q, .int .i64 e.ts, .int .i64 e.seq, .int .i64 e.kind, x][o]? := fun o => (he4.cells _ o (by have := HE.out.size; omega)).trans (hcs o)
    have hlen4 : (keyHead e).length ≤ 600 := by simp only [keyHead, List.length_append, List.length_cons, List.length_nil]; omega
    clear ho4 hg4 hat4 ho2 hf2 he2 HK
    by_cases hk5 : e.kind = 5
    focus
      have hm : keyMid e = keyHead e := if_pos hk5
      have hb5 : ((e.kind : Int) != 5) = false := by simpa using hk5
      rw [← hm] at ho4' hlen4
      have hlen4' : (keyMid e).length ≤ 1200 := by omega
      clear hk5 hm hlen4
      go_wp2
    rotate_left
    focus
      have hm : keyMid e = keyHead e ++ orderedL e.qual ++ [flagN (e.kind == 4)] := if_neg hk5
      have hb5 : ((e.kind : Int) != 5) = true := by simpa using hk5
      clear hk5
      have hlen4' : (keyMid e).length ≤ 1200 := by rw [hm]; simp; omega
      have HM := Lib.hid hm
      clear hm
      go_wp2_with (first
        | (go_at_call 61; refine (Ordered_ok _ _ _ (HR.out.qual.ext (HE.out.trans he4)) (by omega)).mono ?_; rintro e0 w5 ⟨v33, rfl, ho5, hf5, he5⟩; have hcell5 := fun o => (he5.cells _ o (show w.heap.size < w4.heap.size by have := he4.size; omega)).trans (hcell4 o))
        | (go_at_call 62; refine (flag_ok _ _).mono ?_; rintro e0 w7 ⟨rfl, rfl⟩)
        | (at_builtin; refine appB rfl (.tmp 30) (.tmp 33) rfl rfl rfl (ho4'.ext he5) ho5.rd (by omega) ?_; intro v34 w6 ho6 hg6 hat6; have he6 := (he4.trans he5).grown hg6 hf4; have hf6 := From.app hf4 hat6 (he4.trans he5).size; have hcell6 := fun o => (he6.cells _ o hlt1).trans (hcs o))
        | (at_builtin; refine appB rfl (.tmp 35) (.tmp 40) rfl rfl rfl (ho6.alloc _) (RdB.lit w6 [_]) (by simp; omega) ?_; intro v8 w8 ho8 hg8 hat8; have he8 := (he6.alloc _).grown hg8 hf6; have hf8 := From.app hf6 hat8 (he6.alloc _).size; have hcell8 := fun o => (he8.cells _ o hlt1).trans (hcs o)))
      rw [← HM.out] at ho8
      clear ho6 hg6 hat6 he6 hf6 hcell6 ho5 hf5 he5 hcell5 ho4' hlen4 he4 hf4 hcell4 hg8 hat8
      have ho4' := ho8
      have he4 := he8
      have hf4 := hf8
      have hcell4 := hcell8
      clear ho8 he8 hf8 hcell8
    all_goals
      have i0 := two_0 e.ts e.seq
      have i1 := two_1 e.ts e.seq
      go_loopw [5, 47] (fun b i wr => keyRel e T1 T2 i b wr ∧ From w1.heap.size b ∧ Ext w1 wr) (fun _ i _ => (2 - intOf i).toNat)
      case atStart => exact ⟨.inl ⟨rfl, ho4'⟩, hf4, he4⟩
      case round =>
        clear hf4 he4 hcell4 ho4'
        obtain ⟨hrl, hf, he⟩ := hrel
        have hcell := fun o => (he.cells _ o hlt1).trans (hcs o)
        rcases hrl with ⟨rfl, ho⟩ | ⟨rfl, ho⟩ | ⟨rfl, ho⟩
        · clear hcell hcs
          go_wp2_with (first
            | (go_at_call 63; refine (HF1.out _).mono ?_; rintro e0 w2 ⟨v5, rfl, ho5, hf5, he5⟩)
            | (at_builtin; refine appB rfl (.tmp 58) (.tmp 59) rfl rfl rfl (ho.ext he5) ho5.rd (by omega) ?_; intro v6 w6 ho6 hg6 hat6; have he6 := (he.trans he5).grown hg6 hf; have hf6 := From.app hf hat6 (he.trans he5).size))
          go_roundw
          case rel => exact ⟨.inr (.inl ⟨rfl, ho6⟩), hf6, he6⟩
          case measure => simp [intOf]
        · clear hcell hcs
          go_wp2_with (first
            | (go_at_call 63; refine (HF2.out _).mono ?_; rintro e0 w2 ⟨v5, rfl, ho5, hf5, he5⟩)
            | (at_builtin; refine appB rfl (.tmp 58) (.tmp 59) rfl rfl rfl (ho.ext he5) ho5.rd (by simp; omega) ?_; intro v6 w6 ho6 hg6 hat6; have he6 := (he.trans he5).grown hg6 hf; have hf6 := From.app hf hat6 (he.trans he5).size))
          go_roundw
          case rel => exact ⟨.inr (.inr ⟨rfl, ho6⟩), hf6, he6⟩
          case measure => simp [intOf]
        · go_wp2_with (at_builtin; refine appB rfl (.tmp 62) (.tmp 66) rfl rfl rfl (ho.alloc _) (RdB.lit wr [_]) (by simp; omega) ?_; intro v6 w6 ho6 hg6 hat6; have he6 := (he.alloc _).grown hg6 hf; have hf6 := From.app hf hat6 (he.alloc _).size)
          go_ret2
          exact ⟨_, rfl, by show OwB w6 _ (keyBody e); rw [HB.out]; exact ho6, hf6.mono HE.out.size, HE.out.trans he6⟩
end Go.Proofs.Ytckhefkedkipeaa

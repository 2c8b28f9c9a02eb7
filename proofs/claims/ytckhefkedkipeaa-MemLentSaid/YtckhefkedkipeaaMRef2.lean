/- The document's comparison of entries answers as cell.Compare does: the walk. -/
import Derived.Test.YtckhefkedkipeaaMRef
namespace Go.Proofs.Ytckhefkedkipeaa
open Go.RowKit

def Ent.BytesOk (e : Ent) : Prop := ByteL e.row ∧ ByteL e.qual ∧ ByteL e.value

set_option maxHeartbeats 4000000 in
set_option maxRecDepth 100000 in
theorem rCompare_ok (r q x r' q' x' : Value) (a b : Ent) (w : World) (ha : RdE w r q x a) (hb : RdE w r' q' x' b) (hfa : a.BytesOk) (hfb : b.BytesOk) (hr : b.row.length ≤ 140737488351232) (hq : b.qual.length ≤ 140737488351232) :
    Calls Try.prog 23 #[.agg (entCells r q x a), .agg (entCells r' q' x' b)] w (OutN w (compareL a b)) := by
  obtain ⟨R, hR⟩ : ∃ R, R = compareL a b := ⟨_, rfl⟩
  rw [← hR]
  have HR := Lib.hid hR.symm
  clear hR
  have hcB1 : ∀ W, Ext w W → Calls Try.prog 37 #[r, r'] W fun e w' => e = .returned (.int .i64 (cmpS a.row b.row)) ∧ ∃ n, w' = W.drewN n := fun W h => by
    rw [cmpS_eq _ _ hfa.1 hfb.1]
    exact rBytes_ok r r' a.row b.row W (ha.row.ext h) (hb.row.ext h) (by omega)
  have hcB2 : ∀ W, Ext w W → Calls Try.prog 37 #[q, q'] W fun e w' => e = .returned (.int .i64 (cmpS a.qual b.qual)) ∧ ∃ n, w' = W.drewN n := fun W h => by
    rw [cmpS_eq _ _ hfa.2.1 hfb.2.1]
    exact rBytes_ok q q' a.qual b.qual W (ha.qual.ext h) (hb.qual.ext h) (by omega)
  have HB1 := Lib.hid hcB1
  have HB2 := Lib.hid hcB2
  clear hcB1 hcB2 ha hb hfa hfb hr hq
  have hst : ∀ k, k < 8 → stepL a b k = (#[cmpS a.row b.row, cmpN a.fam b.fam, firstB (a.kind == 5) (b.kind == 5), cmpS a.qual b.qual, firstB (a.kind == 4) (b.kind == 4), cmpN b.ts a.ts, cmpN b.seq a.seq, cmpN a.kind b.kind] : Array Int).getD k 0 := by
    intro k hk
    rcases (show k = 0 ∨ k = 1 ∨ k = 2 ∨ k = 3 ∨ k = 4 ∨ k = 5 ∨ k = 6 ∨ k = 7 by omega) with rfl | rfl | rfl | rfl | rfl | rfl | rfl | rfl <;> rfl
  have HST := Lib.hid hst
  clear hst
  generalize cmpS a.row b.row = s0 at *
  generalize cmpS a.qual b.qual = s3 at *
  have he0 : Ext w ((w.alloc (.cells (entCells r q x a) 25)).alloc (.cells (entCells r' q' x' b) 25)) := ((Ext.refl _).alloc _).alloc _
  have hV1 := (Var.new w (entCells r q x a) 25).alloc (.cells (entCells r' q' x' b) 25)
  have hV2 := Var.new (w.alloc (.cells (entCells r q x a) 25)) (entCells r' q' x' b) 25
  unfold entCells at he0 hV1 hV2 ⊢
  obtain ⟨W, hW⟩ : ∃ W, ((w.alloc (.cells #[r, .int .i64 a.fam, q, .int .i64 a.ts, .int .i64 a.seq, .int .i64 a.kind, x] 25)).alloc (.cells #[r', .int .i64 b.fam, q', .int .i64 b.ts, .int .i64 b.seq, .int .i64 b.kind, x'] 25)) = W := ⟨_, rfl⟩
  rw [hW] at he0 hV1 hV2
  simp only [World.size_alloc] at hV2
  have hs := fun w' (h : Ext W w') => (⟨(hV1.ext h).cell, (hV2.ext h).cell⟩ : _ ∧ _)
  have hk : ∀ w', Ext W w' → w'.cell? ⟨w.heap.size, 0, none⟩ = some r ∧ w'.cell? ⟨w.heap.size, 1, none⟩ = some (.int .i64 a.fam) ∧ w'.cell? ⟨w.heap.size, 2, none⟩ = some q ∧ w'.cell? ⟨w.heap.size, 3, none⟩ = some (.int .i64 a.ts) ∧ w'.cell? ⟨w.heap.size, 4, none⟩ = some (.int .i64 a.seq) ∧ w'.cell? ⟨w.heap.size, 5, none⟩ = some (.int .i64 a.kind) ∧
      w'.cell? ⟨w.heap.size + 1, 0, none⟩ = some r' ∧ w'.cell? ⟨w.heap.size + 1, 1, none⟩ = some (.int .i64 b.fam) ∧ w'.cell? ⟨w.heap.size + 1, 2, none⟩ = some q' ∧ w'.cell? ⟨w.heap.size + 1, 3, none⟩ = some (.int .i64 b.ts) ∧ w'.cell? ⟨w.heap.size + 1, 4, none⟩ = some (.int .i64 b.seq) ∧ w'.cell? ⟨w.heap.size + 1, 5, none⟩ = some (.int .i64 b.kind) := by
    intro w' h
    obtain ⟨h1, h2⟩ := hs w' h
    refine ⟨?_, ?_, ?_, ?_, ?_, ?_, ?_, ?_, ?_, ?_, ?_, ?_⟩ <;> first | (rw [h1]; rfl) | (rw [h2]; rfl)
  have HK := Lib.hid hk
  clear hs hk hV1 hV2
  go_enter Try.func23, Try.ntmps23
  go_wp2_with fail
  clear hW
  go_region_held3 (fun w' => w'.cell? ⟨w.heap.size, 0, none⟩ = some r ∧ w'.cell? ⟨w.heap.size, 1, none⟩ = some (.int .i64 a.fam) ∧ w'.cell? ⟨w.heap.size, 2, none⟩ = some q ∧ w'.cell? ⟨w.heap.size, 3, none⟩ = some (.int .i64 a.ts) ∧ w'.cell? ⟨w.heap.size, 4, none⟩ = some (.int .i64 a.seq) ∧ w'.cell? ⟨w.heap.size, 5, none⟩ = some (.int .i64 a.kind) ∧
      w'.cell? ⟨w.heap.size + 1, 0, none⟩ = some r' ∧ w'.cell? ⟨w.heap.size + 1, 1, none⟩ = some (.int .i64 b.fam) ∧ w'.cell? ⟨w.heap.size + 1, 2, none⟩ = some q' ∧ w'.cell? ⟨w.heap.size + 1, 3, none⟩ = some (.int .i64 b.ts) ∧ w'.cell? ⟨w.heap.size + 1, 4, none⟩ = some (.int .i64 b.seq) ∧ w'.cell? ⟨w.heap.size + 1, 5, none⟩ = some (.int .i64 b.kind))
    (first | exact HK.out _ (Ext.refl _).drew | exact HK.out _ ((Ext.refl _).drewN _) | exact HK.out _ (((Ext.refl _).drewN _).alloc _))
    (first
      | (go_at_call 37; (with_reducible refine (HB1.out _ (he0.trans (Ext.refl _).drew)).mono ?_); rintro e0 w1 ⟨rfl, n1, rfl⟩)
      | (go_at_call 37; (with_reducible refine (HB2.out _ (he0.trans ((Ext.refl _).drewN _))).mono ?_); rintro e0 w1 ⟨rfl, n2, rfl⟩)
      | (go_at_call 38; refine (rnumber_ok _ _ _).mono ?_; rintro e0 w1 ⟨rfl, rfl⟩)
      | (go_at_call 39; refine (rfirst_ok _ _ _).mono ?_; rintro e0 w1 ⟨rfl, rfl⟩))
  go_wp2_with fail
  have hV := Var.new (W.drewN (1 + n1 + n2)) #[.int .i64 s0, .int .i64 (cmpN a.fam b.fam), .int .i64 (firstB (a.kind == 5) (b.kind == 5)), .int .i64 s3, .int .i64 (firstB (a.kind == 4) (b.kind == 4)), .int .i64 (cmpN b.ts a.ts), .int .i64 (cmpN b.seq a.seq), .int .i64 (cmpN a.kind b.kind)] 3
  have hE := (he0.trans ((Ext.refl W).drewN (1 + n1 + n2))).alloc (.cells #[.int .i64 s0, .int .i64 (cmpN a.fam b.fam), .int .i64 (firstB (a.kind == 5) (b.kind == 5)), .int .i64 s3, .int .i64 (firstB (a.kind == 4) (b.kind == 4)), .int .i64 (cmpN b.ts a.ts), .int .i64 (cmpN b.seq a.seq), .int .i64 (cmpN a.kind b.kind)] 3)
  obtain ⟨w2, hw2⟩ : ∃ w2, (W.drewN (1 + n1 + n2)).alloc (.cells #[.int .i64 s0, .int .i64 (cmpN a.fam b.fam), .int .i64 (firstB (a.kind == 5) (b.kind == 5)), .int .i64 s3, .int .i64 (firstB (a.kind == 4) (b.kind == 4)), .int .i64 (cmpN b.ts a.ts), .int .i64 (cmpN b.seq a.seq), .int .i64 (cmpN a.kind b.kind)] 3) = w2 := ⟨_, rfl⟩
  rw [hw2] at hV hE ⊢
  clear hw2
  have hcell : ∀ k, k < 8 → w2.cell? ⟨W.heap.size, k, none⟩ = some (.int .i64 (stepL a b k)) := by
    intro k hk
    have h1 := hV.cell k
    have h2 := HST.out k hk
    rw [h2]
    refine Eq.trans h1 ?_
    rcases (show k = 0 ∨ k = 1 ∨ k = 2 ∨ k = 3 ∨ k = 4 ∨ k = 5 ∨ k = 6 ∨ k = 7 by omega) with rfl | rfl | rfl | rfl | rfl | rfl | rfl | rfl <;> rfl
  have HC := Lib.hid hcell
  clear hcell hV HST HB1 HB2 HK he0
  go_loopg [6] 8 (fun g x wr => ∃ k : Nat, x = .int .i64 k ∧ k + g = 8 ∧ Hid (cmpFrom a b (8 - k) k = R) ∧ wr = w2)
  case atStart => exact ⟨0, rfl, rfl, HR.out, rfl⟩
  case round =>
    obtain ⟨k, rfl, hkg, hr, rfl⟩ := hrel
    clear HR
    by_cases hlt : k < 8
    · have hd := hr.out
      have e8 : 8 - k = (8 - (k + 1)) + 1 := by omega
      rw [e8] at hd
      simp only [cmpFrom] at hd
      have hc := HC.out k hlt
      have h3 : (0 : Int) ≤ (k : Int) := by omega
      clear HC e8 hr
      generalize stepL a b k = c at *
      by_cases h0 : c = 0
      · rw [if_neg (by simpa using h0)] at hd
        have HD := Lib.hid hd
        subst h0
        clear hd
        go_wp2
        go_roundg (gk - 1)
        case measure => omega
        case rel => exact ⟨k + 1, by go_num, by omega, HD.out, rfl⟩
      · rw [if_pos (by simpa using h0)] at hd
        have HD := Lib.hid hd
        have hb : ((c : Int) != 0) = true := by simpa using h0
        clear hd h0
        go_wp2
        go_ret
        exact ⟨by rw [← HD.out]; rfl, hE⟩
    · have hd : cmpFrom a b (8 - k) k = R := hr.out
      rw [show 8 - k = 0 by omega] at hd
      have HD := Lib.hid hd
      clear hd hr
      go_wp2
      go_ret
      exact ⟨by rw [← HD.out]; rfl, hE⟩
end Go.Proofs.Ytckhefkedkipeaa

/- Layer 8's told: a new table takes two entries and gives them in order. -/
import Derived.Test.YtckhefkedkipeaaMList
import Derived.Test.YtckhefkedkipeaaMAt
import Derived.Shelf.Abstract
import Derived.Shelf.RegionOpen
namespace Go.Proofs.Ytckhefkedkipeaa
open Go.RowKit
set_option linter.unusedVariables false
attribute [local go_sem] Oper.semAt_some

/-- What the loop of told keeps. -/
structure TJ (w2 : World) (bl : Nat) (B : Nat) (is : List Itm) (W : World) : Prop where
  var : Var W bl 3 #[.int .i64 (is.length : Int)]
  fr : Fr (fun k => k = bl) w2 W
  base : w2.heap.size ≤ B ∧ B ≤ W.heap.size
theorem TJ.firm (w2 : World) (bl B : Nat) (is : List Itm) : Firm w2.heap.size (TJ w2 bl B is) := by
  intro W W' l hl h hb hf
  exact ⟨h.var.bare hb hf,
    ⟨hf.os.trans h.fr.os, hf.tape.trans h.fr.tape, hf.output.trans h.fr.output, Nat.le_trans h.fr.size hf.size, fun k hk hn => (hf.block k (Nat.lt_of_lt_of_le hk h.fr.size) (by omega)).trans (h.fr.block k hk hn)⟩, h.base.1, Nat.le_trans h.base.2 hf.size⟩
theorem TJ.next {w11 W0 W w2 : World} {bl B l : Nat} {pre : List Itm} {i : Itm} {u v : Value} (hl : w11.heap.size ≤ l) (hj : TJ w11 bl B pre W0) (hf : Fr (fun k => k = l) W0 W) (he : Ext W w2) (hv : Var w2 bl 3 #[u]) (e : v = .int .i64 ((pre ++ [i]).length : Int)) :
    TJ w11 bl B (pre ++ [i]) (w2.setCell ⟨bl, 0, none⟩ v) ∧ Fr (fun k => k = bl ∨ B ≤ k) W (w2.setCell ⟨bl, 0, none⟩ v) := by
  subst e
  have h1 : Fr (fun k => k = bl) w11 W := ⟨hf.os.trans hj.fr.os, hf.tape.trans hj.fr.tape, hf.output.trans hj.fr.output, Nat.le_trans hj.fr.size hf.size, fun k hk hn => (hf.block k (Nat.lt_of_lt_of_le hk hj.fr.size) (by omega)).trans (hj.fr.block k hk hn)⟩
  have h2 := Fr.set w2 bl 0 (.int .i64 ((pre ++ [i]).length : Int))
  refine ⟨⟨hv.set 0 _, (h1.trans (Fr.ext he _)).trans h2, hj.base.1, ?_⟩, (Fr.ext he _).trans (h2.mono fun k _ hk => .inl hk)⟩
  have := hj.base.2
  have := hf.size
  have := he.size
  have := h2.size
  omega
theorem at_next {pre : List Itm} {i : Itm} (h : (pre.map (·.e) ++ [i.e]) <+: [atE 5, atE 4]) : (pre.length = 0 ∧ i.e = atE 5) ∨ (pre.length = 1 ∧ i.e = atE 4) := by
  obtain ⟨s, hs⟩ := h
  match pre with
  | [] => simp at hs; exact .inl ⟨rfl, hs.1⟩
  | [a] => simp at hs; exact .inr ⟨rfl, hs.2.1⟩
  | a :: b :: c => simp at hs
theorem run_eqlF (f : Nat) (c lb : Array Value) (W : World) : (binOp BinOp.eql 50 (.func (.func f) c lb) Value.nilFunc).run Try.prog W = .ok (.bool false) W := by
  rfl
set_option maxHeartbeats 4000000 in
set_option maxRecDepth 100000 in
theorem told8_ok (w : World) : Calls Try.prog 4 #[] w fun e w' => e = .returned (.bool true) ∧ Ext w w' := by
  obtain ⟨t1, t2, F⟩ := atFacts
  have H4 : Hid (∀ W, CallsIn Fence.wide 9 Try.prog 16 #[.int .i64 4] W (OutR W (atE 4))) := Lib.hid fun W => callsIn_wide.2 (at8_ok 4 W)
  have H5 : Hid (∀ W, CallsIn Fence.wide 9 Try.prog 16 #[.int .i64 5] W (OutR W (atE 5))) := Lib.hid fun W => callsIn_wide.2 (at8_ok 5 W)
  have H9 : Hid (∀ W, CallsIn Fence.wide 9 Try.prog 16 #[.int .i64 9] W (OutR W (atE 9))) := Lib.hid fun W => callsIn_wide.2 (at8_ok 9 W)
  have HA : ∀ (e : Ent) (t t' : Tr) (c : Int), e.Fits → t.size ≤ 400 → addCode e t = c → addTr e t = t' → Hid (∀ W N pa r q x, RdE W r q x e → N ≤ W.heap.size → Tab W N pa t → CallsIn Fence.wide 9 Try.prog 8 #[.pointer (some ⟨pa, 0, none⟩), .agg #[r, .int .i64 e.fam, q, .int .i64 e.ts, .int .i64 e.seq, .int .i64 e.kind, x]] W fun e0 w' => e0 = .returned (.int .i64 c) ∧ Fr (fun k => k = pa) W w' ∧ Tab w' N pa t') := by
    intro e t t' c hf hs hc ht
    subst hc ht
    exact Lib.hid fun W N pa r q x hr hN hT => callsIn_wide.2 (TAdd_ok r q x e t pa N W hr hf hN hT hs)
  have HA1 := HA (atE 4) .leaf t1 0 (atE_fits 4 (by unfold isI64; decide)) (by decide) F.c1 F.s1
  have HA2 := HA (atE 5) t1 t2 0 (atE_fits 5 (by unfold isI64; decide)) F.z1 F.c2 F.s2
  have HA3 := HA (atE 5) t2 t2 80 (atE_fits 5 (by unfold isI64; decide)) (by have := F.z2; omega) F.c3 F.s3
  clear HA
  unfold atE at HA1 HA2 HA3
  have HL : Hid (∀ W N pa, Tab W N pa t2 → CallsIn Fence.wide 9 Try.prog 17 #[.pointer (some ⟨pa, 0, none⟩)] W fun e w' => e = .returned (.int .i64 2) ∧ w' = W) := Lib.hid fun W N pa h => callsIn_wide.2 (by have h2 := Len_ok pa N t2 W h; rw [F.z2] at h2; exact h2)
  have HAL : Hid (∀ W pa, CallsIn Fence.wide 9 Try.prog 18 #[.pointer (some ⟨pa, 0, none⟩)] W _) := Lib.hid fun W pa => callsIn_wide.2 (All_ok pa W)
  have HFR : Hid (∀ W pa r q x, RdE W r q x (atE 9) → CallsIn Fence.wide 9 Try.prog 19 #[.pointer (some ⟨pa, 0, none⟩), .agg #[r, .int .i64 0, q, .int .i64 9, .int .i64 32, .int .i64 1, x]] W _) := Lib.hid fun W pa r q x hr => callsIn_wide.2 (From_ok pa r q x (atE 9) W hr (by simp [atE]) (by simp [atE]) (by simp [atE]))
  have HN : Hid (∀ W, CallsIn Fence.wide 9 Try.prog 5 #[] W _) := Lib.hid fun W => callsIn_wide.2 (New_ok W)
  have HF := Lib.hid F
  clear F
  have hmx : Try.prog.follows .mixedOrders = true := by kernel_rfl
  have hV := Var.new w #[.bool false] 4
  have hE := (Ext.refl w).alloc (.cells #[.bool false] 4)
  obtain ⟨X, hX⟩ : ∃ X, w.alloc (.cells #[.bool false] 4) = X := ⟨_, rfl⟩
  rw [hX] at hV hE
  refine callsIn_wide (n := 10).1 ?_
  refine callsIn_of_wp_marks Try.func4 rfl trivial ?_ rfl
  simp only [Try.ntmps4, List.size_toArray, List.length_nil, Nat.reduceSub, Array.replicate_succ, Array.replicate_zero, List.push_toArray, List.append_toArray, List.nil_append, List.cons_append]
  gi_wp2_with fail
  refine ⟨trivial, ?_⟩
  refine (HN.out _).mono ?_
  rintro e0 w1 ⟨rfl, hV1, he1, hs1⟩
  have hT1 : Tab w1 w1.heap.size X.heap.size .leaf := Tab.new (w' := w1) hV1 (by omega)
  clear hX
  gi_wp2_with fail
  refine ⟨trivial, ?_⟩
  refine (H4.out _).mono ?_
  rintro e0 w2 ⟨r4, q4, x4, rfl, hr4, hf4, he2⟩
  simp only [entCells, atE]
  gi_wp2_with fail
  refine ⟨trivial, ?_⟩
  refine (HA1.out _ _ _ _ _ _ hr4 he2.size (hT1.ext he2)).mono ?_
  rintro e0 w3 ⟨rfl, hf3, hT3⟩
  have hs3 := Nat.le_trans he2.size hf3.size
  gi_wp2_with fail
  refine ⟨trivial, ?_⟩
  refine (H5.out _).mono ?_
  rintro e0 w4 ⟨r5, q5, x5, rfl, hr5, hf5, he4⟩
  simp only [entCells, atE]
  gi_wp2_with fail
  refine ⟨trivial, ?_⟩
  refine (HA2.out _ _ _ _ _ _ hr5 (Nat.le_trans hs3 he4.size) (hT3.ext he4)).mono ?_
  rintro e0 w5 ⟨rfl, hf5', hT5⟩
  have hs5 := Nat.le_trans hs3 (Nat.le_trans he4.size hf5'.size)
  gi_wp2_with fail
  refine ⟨trivial, ?_⟩
  refine (HL.out _ _ _ hT5).mono ?_
  rintro e0 _ ⟨rfl, rfl⟩
  gi_wp2_with fail
  refine ⟨trivial, ?_⟩
  refine (H5.out _).mono ?_
  rintro e0 w6 ⟨r6, q6, x6, rfl, hr6, hf6, he6⟩
  simp only [entCells, atE]
  gi_wp2_with fail
  refine ⟨trivial, ?_⟩
  refine (HA3.out _ _ _ _ _ _ hr6 (Nat.le_trans hs5 he6.size) (hT5.ext he6)).mono ?_
  rintro e0 w7 ⟨rfl, hf7, hT7⟩
  have hE7 : Ext w w7 := by
    have e3 := Fr.toExt (hE.trans (he1.trans he2)) hf3 fun k hk => by subst hk; exact hE.size
    have e5 := Fr.toExt (e3.trans he4) hf5' fun k hk => by subst hk; exact hE.size
    exact Fr.toExt (e5.trans he6) hf7 fun k hk => by subst hk; exact hE.size
  have hV7 : Var w7 w.heap.size 4 #[.bool false] := by
    have hlt : w.heap.size < X.heap.size := hV.lt
    have hne : ¬ (w.heap.size = X.heap.size) := by omega
    exact ((((((hV.ext he1).ext he2).fr hf3 hne).ext he4).fr hf5' hne).ext he6).fr hf7 hne
  have hs7 : X.heap.size < w7.heap.size := by
    have h1 := he1.size
    have h2 := hs1
    have h3 := hf3.size
    have h4 := he4.size
    have h5 := hf5'.size
    have h6 := he6.size
    have h7 := hf7.size
    have h8 := he2.size
    omega
  have hXw : w.heap.size < X.heap.size := hV.lt
  have hw1s : w1.heap.size ≤ w7.heap.size := Nat.le_trans hs5 (Nat.le_trans he6.size hf7.size)
  clear hf3 he2 he4 hf5' he6 hf7 hr4 hr5 hr6 hf4 hf5 hf6 hT1 hT3 hT5 hV hE HA1 HA2 HA3 HN HL he1 hV1 hs1 hs3 hs5
  gi_wp2_with fail
  refine ⟨trivial, ?_⟩
  refine (HAL.out _ _).mono ?_
  rintro e0 w8 ⟨rfl, g8, -, -, -⟩
  gi_wp2_with fail
  rename_i K hK
  refine hK _ _ ?_
  clear hK K
  gi_wp2_with fail
  refine ⟨trivial, ?_⟩
  refine (H9.out _).mono ?_
  rintro e0 w9 ⟨r9, q9, x9, rfl, hr9, hf9, he9⟩
  simp only [entCells, atE]
  gi_wp2_with fail
  refine ⟨trivial, ?_⟩
  refine (HFR.out _ _ _ _ _ hr9).mono ?_
  rintro e0 w10 ⟨ko, kt, r', q', x', rfl, g10, -⟩
  have hT10 := ((hT7.ext g8).ext he9).ext g10
  have hV10 := ((hV7.ext g8).ext he9).ext g10
  have hE10 := ((hE7.trans g8).trans he9).trans g10
  have hs10 := ((g8.trans he9).trans g10).size
  clear hT7 hV7 hE7 g8 he9 g10 hr9 hf9 H9 HFR
  gi_wp2_with fail
  rw [run_eqlF]
  simp only [Result.andThen, Oper.uponIn_value]
  rename_i K hK
  refine hK _ _ ?_
  clear hK K
  gi_wp2_with fail
  have hVn := Var.new w10 #[.int .i64 0] 3
  have hEn := (Ext.refl w10).alloc (.cells #[.int .i64 0] 3)
  obtain ⟨Y, hY⟩ : ∃ Y, w10.alloc (.cells #[.int .i64 0] 3) = Y := ⟨_, rfl⟩
  rw [hY] at hVn hEn ⊢
  have hYs : Y.heap.size = w10.heap.size + 1 := by rw [← hY]; simp
  clear hY
  refine ⟨trivial, ?_⟩
  refine (HAL.out _ _).mono ?_
  rintro e0 w11 ⟨rfl, g11, s11, c11, d11⟩
  gi_wp2_with fail
  obtain ⟨⟨v, n, B0, hV0, ht, _, _⟩, hpa⟩ := hT10
  have hseq := behind_all Y.heap.size (Y.heap.size + 1) X.heap.size w10.heap.size w1.heap.size w10 w11 t2 (fun _ => false) (hEn.trans g11) ⟨Nat.le_refl _, by omega⟩ ⟨by omega, by omega⟩ ⟨by omega, by omega⟩ hV0.lt c11 d11 v (by rw [hV0.cell]; rfl) ht HF.out.ok (fun W' _ r q x e _ => all1_ok r q x e W')
  rw [listT_all, HF.out.l2] at hseq
  have hVn11 := hVn.ext g11
  have hV11 := (hV10.ext hEn).ext g11
  have hE11 := (hE10.trans hEn).trans g11
  clear hV0 ht hVn hEn hV10 hE10 c11 d11
  rw [hYs] at hseq
  refine range_law (gf := 46) (lb := #[.pointer (some ⟨w10.heap.size + 1, 0, none⟩), .pointer (some ⟨w10.heap.size + 1 + 1, 0, none⟩)]) (bl := w10.heap.size) rfl (enters_of Try.func46 (by kernel_rfl) rfl) rfl (by omega) hseq
    (fun B is W => TJ w11 w10.heap.size B is W) (fun B is => TJ.firm w11 w10.heap.size B is) ?start
    (fun i a' W => ∃ bx, Var W bx 25 (entCells i.r i.q i.x i.e) ∧ bx ≠ w10.heap.size ∧ a' = { tmps := #[.pointer (some ⟨w.heap.size, 0, none⟩), .pointer (some ⟨X.heap.size, 0, none⟩), .pointer (some ⟨w10.heap.size, 0, none⟩), .pointer (some ⟨bx, 0, none⟩), .pointer (some ⟨X.heap.size, 0, none⟩), .pointer (some ⟨X.heap.size, 0, none⟩), .bool false, .bool false, .pointer (some ⟨X.heap.size, 0, none⟩), .agg #[r4, .int .i64 0, q4, .int .i64 4, .int .i64 32, .int .i64 1, x4], .int .i64 0, .bool false, .bool false, .bool false, .pointer (some ⟨X.heap.size, 0, none⟩), .agg #[r5, .int .i64 0, q5, .int .i64 5, .int .i64 32, .int .i64 1, x5], .int .i64 0, .bool false, .bool false, .bool false, .pointer (some ⟨X.heap.size, 0, none⟩), .int .i64 2, .bool false, .bool false, .bool false, .pointer (some ⟨X.heap.size, 0, none⟩), .agg #[r6, .int .i64 0, q6, .int .i64 5, .int .i64 32, .int .i64 1, x6], .int .i64 80, .bool false, .bool false, .pointer (some ⟨X.heap.size, 0, none⟩), .func (.func 46) #[] #[.pointer (some ⟨w7.heap.size, 0, none⟩), .pointer (some ⟨w7.heap.size + 1, 0, none⟩)], .bool false, .bool false, .pointer (some ⟨X.heap.size, 0, none⟩), .agg #[r9, .int .i64 0, q9, .int .i64 9, .int .i64 32, .int .i64 1, x9], .func (.func 46) #[] #[.pointer (some ⟨kt, 0, none⟩), .pointer (some ⟨kt + 1, 0, none⟩)], .bool false, .bool false, .pointer (some ⟨X.heap.size, 0, none⟩), .func (.func 46) #[] #[.pointer (some ⟨w10.heap.size + 1, 0, none⟩), .pointer (some ⟨w10.heap.size + 1 + 1, 0, none⟩)], .agg (entCells i.r i.q i.x i.e), undef, undef, undef, undef, undef, undef, undef, undef, undef, undef], defers := [] })
    (fun i a' W W' l _ h hb hf => by obtain ⟨bx, h1, h2, h3⟩ := h; exact ⟨bx, h1.bare hb hf, h2, h3⟩) ?assign ?body ?done
  case start =>
    intro W' h
    exact ⟨hVn11.ext h, Fr.ext h _, h.size, Nat.le_refl _⟩
  case assign =>
    rintro l ⟨ir, iq, ix, ie⟩ W K hWs hoi hK
    dsimp only at hoi hK ⊢
    obtain ⟨A1, d1, rfl, -⟩ := hoi.row.rd.shape
    obtain ⟨A2, d2, rfl, -⟩ := hoi.qual.rd.shape
    obtain ⟨A3, d3, rfl, -⟩ := hoi.value.rd.shape
    clear hoi
    have hVz := Var.new W #[.slice none 0 0, .int .i64 0, .slice none 0 0, .int .i64 0, .int .i64 0, .int .i64 0, .slice none 0 0] 25
    have hEz := (Ext.refl W).alloc (.cells #[.slice none 0 0, .int .i64 0, .slice none 0 0, .int .i64 0, .int .i64 0, .int .i64 0, .slice none 0 0] 25)
    obtain ⟨Y, hY⟩ : ∃ Y, W.alloc (.cells #[.slice none 0 0, .int .i64 0, .slice none 0 0, .int .i64 0, .int .i64 0, .int .i64 0, .slice none 0 0] 25) = Y := ⟨_, rfl⟩
    rw [hY] at hVz hEz
    have hcu := hVz.cell
    have hzu := hVz.frozen
    obtain ⟨y9, hy9, hV9, hg9⟩ := store7 hVz rfl (.slice A1 ie.row.length d1) (.int .i64 ie.fam) (.slice A2 ie.qual.length d2) (.int .i64 ie.ts) (.int .i64 ie.seq) (.int .i64 ie.kind) (.slice A3 ie.value.length d3)
    have e9 : Ext W y9 := hEz.put hg9 (Nat.le_refl _)
    have HK := Lib.hid hK
    have HV9 := Lib.hid hV9
    clear hK hV9
    simp only [entCells]
    gi_wp2
    exact HK.out _ _ e9 ⟨W.heap.size, HV9.out, by omega, rfl⟩
  case body =>
    rintro l B pre i W0 W a' hlw hj hb hf ⟨bx, hbx, hbn, rfl⟩ ho hfr hpre
    have hnx := at_next hpre
    obtain ⟨ir, iq, ix, ie⟩ := i
    dsimp only at hbx ho hfr hpre hnx ⊢
    have hvn := hj.var.bare hb hf
    have hB2 := hj.base.2
    have hfs := hf.size
    have HJ := Lib.hid hj
    have HF2 := Lib.hid hf
    have HB := Lib.hid hb
    clear hj hf hb hpre hfr
    have HO := Lib.hid ho.rd
    clear ho
    have hlt2 : w10.heap.size < W.heap.size := hvn.lt
    rcases hnx with ⟨hn, rfl⟩ | ⟨hn, rfl⟩
    · simp only [entCells, atE] at hbx ⊢
      rw [hn] at hvn
      have hvn : Var W w10.heap.size 3 #[.int .i64 0] := hvn
      have hcb := hbx.cell
      have hcn := hvn.cell
      have hzn := hvn.frozen
      have HVN := Lib.hid hvn
      have HBX := Lib.hid hbx
      have HS := Lib.hid (fun W' r' q' x' (h : RdE W' ir iq ix (atE 5)) h' => callsIn_wide (n := 9).2 (sameEntry_ok ir iq ix r' q' x' (atE 5) W' h h' (by simp [atE]) (by simp [atE]) (by simp [atE])))
      unfold entCells at HS
      simp only [atE] at HS HO
      clear hvn hbx
      gi_wp2_with fail
      gi_region_with_o (first
        | (refine ⟨trivial, ?_⟩; gi_at_call 16; refine (CallsIn.inRound l (H5.out _)).mono ?_; rintro e0 w1 ⟨r1, q1, x1, rfl, hr1, hfr1, he1⟩; simp only [entCells, atE]; have hcb1 := (HBX.out.ext ((Ext.refl W).drew.trans he1)).cell)
        | (refine ⟨trivial, ?_⟩; gi_at_call 20; refine (CallsIn.inRound l (HS.out _ _ _ _ (HO.out.ext ((Ext.refl _).drew.trans he1)) hr1)).mono ?_; rintro e0 w2 ⟨rfl, he2⟩))
      all_goals
        have hv2 := HVN.out.ext (((Ext.refl W).drew.trans he1).trans he2)
        have hc2 := hv2.cell
        have hz2 := hv2.frozen
        clear hcb hcn hzn hcb1
        gi_wp2
        exact TJ.next hlw HJ.out HF2.out (((Ext.refl W).drew.trans he1).trans he2) hv2 (by simp [hn])
    · simp only [entCells, atE] at hbx ⊢
      rw [hn] at hvn
      have hvn : Var W w10.heap.size 3 #[.int .i64 1] := hvn
      have hcb := hbx.cell
      have hcn := hvn.cell
      have hzn := hvn.frozen
      have HVN := Lib.hid hvn
      have HBX := Lib.hid hbx
      have HS := Lib.hid (fun W' r' q' x' (h : RdE W' ir iq ix (atE 4)) h' => callsIn_wide (n := 9).2 (sameEntry_ok ir iq ix r' q' x' (atE 4) W' h h' (by simp [atE]) (by simp [atE]) (by simp [atE])))
      unfold entCells at HS
      simp only [atE] at HS HO
      clear hvn hbx
      gi_wp2_with fail
      gi_region_with_o (first
        | (refine ⟨trivial, ?_⟩; gi_at_call 16; refine (CallsIn.inRound l (H4.out _)).mono ?_; rintro e0 w1 ⟨r1, q1, x1, rfl, hr1, hfr1, he1⟩; simp only [entCells, atE]; have hcb1 := (HBX.out.ext ((Ext.refl W).drew.trans he1)).cell)
        | (refine ⟨trivial, ?_⟩; gi_at_call 20; refine (CallsIn.inRound l (HS.out _ _ _ _ (HO.out.ext ((Ext.refl _).drew.trans he1)) hr1)).mono ?_; rintro e0 w2 ⟨rfl, he2⟩))
      all_goals
        have hv2 := HVN.out.ext (((Ext.refl W).drew.trans he1).trans he2)
        have hc2 := hv2.cell
        have hz2 := hv2.frozen
        clear hcb hcn hzn hcb1
        gi_wp2
        exact TJ.next hlw HJ.out HF2.out (((Ext.refl W).drew.trans he1).trans he2) hv2 (by simp [hn])
  case done =>
    intro D B is W hD hj hes hD2
    have hl2 : is.length = 2 := by have := congrArg List.length hes; simpa using this
    have hvn := hj.var
    rw [hl2] at hvn
    have hvn : Var W w10.heap.size 3 #[.int .i64 2] := hvn
    have hvr := hV11.fr hj.fr (by omega)
    have hcn := hvn.cell
    have hcr := hvr.cell
    have hzr := hvr.frozen
    have hEW : Ext w W := Fr.toExt hE11 hj.fr fun k hk => by omega
    have hwlt : w.heap.size < w11.heap.size := hV11.lt
    have hD3 : (W.setCell ⟨w.heap.size, 0, none⟩ (.bool true)).heap[D]? = some (.deferred (some [])) := ((Fr.set W w.heap.size 0 (.bool true)).block D (Array.getElem?_eq_some_iff.1 hD2).1 (by omega)).trans hD2
    have HVR := Lib.hid (hvr.set 0 (.bool true))
    have HE3 := Lib.hid (hEW.setCell (p := ⟨w.heap.size, 0, none⟩) (Nat.le_refl _) (.bool true))
    clear hj hvn hvr hes hD2
    gi_wp2
    refine ⟨by simp, .inl ⟨_, _, rfl, run_takeDeferred hD3, ?_⟩⟩
    have hfp := Fr.putObj (W.setCell ⟨w.heap.size, 0, none⟩ (.bool true)) D (.deferred none)
    have hc4 := (HVR.out.fr hfp (by omega)).cell 0
    have hE4 := Fr.toExt HE3.out hfp fun k hk => by omega
    refine ⟨.bool true, ?_, rfl, hE4⟩
    simp [results, Try.results4, go_sem, hc4]
end Go.Proofs.Ytckhefkedkipeaa

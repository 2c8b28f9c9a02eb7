/- The walk of Settle. -/
import Derived.Test.YtckhefkedkipeaaSettle
namespace Go.Proofs.Ytckhefkedkipeaa
open Go.RowKit

theorem Kst.at2 {w : World} {N p n : Nat} {its : List It} {Al Aw : Option Addr} {cl cw : Nat} (hn : its.length = n) (h : Kst w N p (.slice Al n cl) (.slice Aw n cw) its) (k : Nat) (hk : k < n) :
    ∃ a A1 c1 u l m, Al = some a ∧ its[k]? = some ⟨.slice A1 (List.length l) c1, u, l, m⟩ ∧ w.cell? (a.add k) = some (.slice A1 l.length c1) ∧
      OwB w (.slice A1 l.length c1) l ∧ l.length ≤ 140737488350000 := by
  subst hn
  obtain ⟨a, b, A1, c1, A2, c2, l, m, h1, _, h2, h3, _, h4, _, h5, _⟩ := h.at_ k hk
  exact ⟨a, A1, c1, _, l, m, h1, h2, h3, h4, h5⟩
theorem Lst.at2 {w : World} {N p n i : Nat} {its : List It} {Al Aw : Option Addr} {cl cw : Nat} (hn : its.length = n) (h : Lst w N p (.slice Al n cl) (.slice Aw n cw) its i) (k : Nat) (hk : k < n) :
    ∃ a A1 c1 u l m, Al = some a ∧ its[k]? = some ⟨.slice A1 (List.length l) c1, u, l, m⟩ ∧ w.cell? (a.add k) = some (.slice A1 l.length c1) ∧
      RdB w (.slice A1 l.length c1) l ∧ l.length ≤ 140737488350000 := by
  subst hn
  have hit := List.getElem?_eq_getElem hk
  have hmem := List.getElem_mem hk
  have ho := h.rd _ hmem
  have hsm := h.small _ hmem
  generalize its[k] = it at *
  obtain ⟨v, u, l, m⟩ := it
  obtain ⟨A1, c1, hv, _⟩ := ho.1.shape
  simp only at hv ho hsm
  subst hv
  obtain ⟨_, A, c, e, _, hcells⟩ := h.L.rd
  cases e
  obtain ⟨a, e1, h1⟩ := hcells k (.slice A1 l.length c1) (by simp [hit])
  exact ⟨a, A1, c1, u, l, m, e1, hit, h1, ho.1, hsm.1⟩

/-- The same byte strings; where Q says so, the mark is written. -/
structure Mkd (its its' : List It) (Q : Nat → Nat → Prop) : Prop where
  len : its'.length = its.length
  at_ : ∀ k it, its[k]? = some it → ∃ l', its'[k]? = some ⟨it.v, it.u, l', it.m⟩ ∧ l'.length = it.l.length ∧ ∀ j, j < l'.length → Q k j → gt l' j = mark k
theorem Mkd.refl (its : List It) (Q : Nat → Nat → Prop) (h : ∀ k j, ¬ Q k j) : Mkd its its Q := ⟨rfl, fun k it hit => ⟨it.l, hit, rfl, fun j _ hq => absurd hq (h k j)⟩⟩
theorem Mkd.mono {its its' : List It} {Q R : Nat → Nat → Prop} (h : Mkd its its' Q) (hr : ∀ k j it, its[k]? = some it → j < it.l.length → R k j → Q k j) : Mkd its its' R :=
  ⟨h.len, fun k it hit => by
    obtain ⟨l', h1, h2, h3⟩ := h.at_ k it hit
    exact ⟨l', h1, h2, fun j hj hq => h3 j hj (hr k j it hit (by omega) hq)⟩⟩
/-- One byte more is marked. -/
theorem Mkd.put {its its' : List It} {Q : Nat → Nat → Prop} (h : Mkd its its' Q) {i c : Nat} {A B : List It} {it : It} (he : its' = A ++ it :: B) (hA : A.length = i) (hc : c < it.l.length) :
    Mkd its (A ++ ⟨it.v, it.u, it.l.set c (mark i), it.m⟩ :: B) (fun k j => Q k j ∨ (k = i ∧ j = c)) := by
  refine ⟨by rw [← h.len, he]; simp, fun k i0 hit => ?_⟩
  obtain ⟨l', h1, h2, h3⟩ := h.at_ k i0 hit
  by_cases hk : k = i
  · subst hk
    rw [he, ← hA] at h1
    simp only [List.getElem?_append_right (Nat.le_refl _), Nat.sub_self, List.getElem?_cons_zero, Option.some.injEq] at h1
    subst h1
    refine ⟨l'.set c (mark k), by rw [← hA]; simp, by simpa using h2, fun j hj hq => ?_⟩
    have hj' : j < l'.length := by simpa using hj
    rw [gt_set l' c j (mark k) hc hj']
    by_cases hcj : c = j
    · rw [if_pos hcj]
    · rw [if_neg hcj]
      rcases hq with hq | ⟨_, hq⟩
      · exact h3 j hj' hq
      · exact absurd hq.symm hcj
  · refine ⟨l', ?_, h2, fun j hj hq => ?_⟩
    · rw [← h1, he]
      by_cases hlt : k < A.length
      · rw [List.getElem?_append_left hlt, List.getElem?_append_left hlt]
      · rw [List.getElem?_append_right (by omega), List.getElem?_append_right (by omega)]
        obtain ⟨j, hj⟩ : ∃ j, k - A.length = j + 1 := ⟨k - A.length - 1, by omega⟩
        rw [hj, List.getElem?_cons_succ, List.getElem?_cons_succ]
    · rcases hq with hq | ⟨hq, _⟩
      · exact h3 j hj hq
      · exact absurd hq hk
theorem Mor.fr2 {w w' : World} {N1 p j : Nat} {Lv Wv mv : Value} {its A B : List It} {it : It} {gs : List Value} (h : Mor w N1 its mv j gs) (he : its = A ++ it :: B) (hA : A.length = j) (hf : Fr (Blk it.v) w w') (hs : (pcs p Lv Wv its).Pairwise Sep)
    (hlt : ∀ b, it.v.ownBlock = some b → b < N1) : Mor w' N1 its mv j gs := by
  subst he hA; exact h.fr hf hs hlt
theorem Lst.next2 {w w' : World} {N p j : Nat} {Lv Wv : Value} {its A B : List It} {it : It} (h : Lst w N p Lv Wv its j) (he : its = A ++ it :: B) (hA : A.length = j) (hf : Fr (Blk it.v) w w') (hv : RdB w' it.v it.l) : Lst w' N p Lv Wv its (j + 1) := by
  subst he hA; exact h.next hf hv
/-- The blocks of the byte strings. -/
def Vs (its : List It) (b : Nat) : Prop := ∃ it ∈ its, it.v.ownBlock = some b
theorem Mkd.vs {its its' : List It} {Q : Nat → Nat → Prop} (h : Mkd its its' Q) {b : Nat} (hb : Vs its' b) : Vs its b := by
  obtain ⟨it, hit, hbv⟩ := hb
  obtain ⟨k, hk, hkt⟩ := List.mem_iff_getElem.1 hit
  have hk' : k < its.length := by have := h.len; omega
  obtain ⟨l', h1, _⟩ := h.at_ k its[k] (List.getElem?_eq_getElem hk')
  rw [List.getElem?_eq_getElem hk, hkt] at h1
  have e := Option.some.inj h1
  exact ⟨its[k], List.getElem_mem hk', by rw [e] at hbv; exact hbv⟩
theorem it_len {its : List It} {i : Nat} {v u : Value} {l m : List Int} {it : It} (h : its[i]? = some ⟨v, u, l, m⟩) (h2 : its[i]? = some it) : it.l = l := by
  have := Option.some.inj (h.symm.trans h2)
  rw [← this]

set_option maxHeartbeats 2000000 in
set_option maxRecDepth 100000 in
theorem Settle_ok (w : World) (N p : Nat) (Lv Wv : Value) (its : List It) (hk : Kst w N p Lv Wv its) (hs : ∀ it ∈ its, it.l = it.m) (hn : its.length ≤ 1000) :
    Calls Try.prog 14 #[.pointer (some ⟨p, 0, none⟩)] w fun e w' => e = .returned (.bool true) ∧ Fr (Vs its) w w' ∧ ∃ its', Lst w' N p Lv Wv its' its'.length ∧ Mkd its its' (fun _ _ => True) := by
  have hU := Untouched_ok w N p Lv Wv its hk hs hn
  obtain ⟨Al, cl, rfl, hcl⟩ := hk.L.shape
  obtain ⟨Aw, cw, rfl, hcw⟩ := hk.W.shape
  have HA := Lib.hid hk
  have HU := Lib.hid hU
  clear hk hs hU
  go_enter Try.func14, Try.ntmps14
  go_wp2_with (go_at_call 30; refine HU.out.mono ?_; rintro e0 w0 ⟨rfl, he0⟩)
  clear HU
  go_loopw [3] (fun x wr => ∃ (i : Nat) (its1 : List It), i ≤ its.length ∧ x = .int .i64 i ∧ Kst wr N p (.slice Al its.length cl) (.slice Aw its.length cw) its1 ∧ Mkd its its1 (fun k _ => k < i) ∧ Fr (Vs its) w wr) (fun x _ => its.length - (intOf x).toNat)
  case atStart => exact ⟨0, its, by omega, rfl, HA.out.ext he0, Mkd.refl _ _ (fun k j => by omega), Fr.ext he0 _⟩
  case round =>
    obtain ⟨i, its1, hi, rfl, hK1, hM1, hB1⟩ := hrel
    have hl1 := hM1.len
    have hcv := hK1.var.cell
    have HK1 := Lib.hid hK1
    have HM1 := Lib.hid hM1
    clear hK1 hM1
    by_cases hlt : i < its.length
    · have hit := List.getElem?_eq_getElem hlt
      obtain ⟨it0, hit0⟩ : ∃ it0, its[i]? = some it0 := ⟨_, hit⟩
      clear hit
      obtain ⟨lq, _, hlq, _⟩ := HM1.out.at_ i it0 hit0
      have hsm0 : it0.l.length ≤ 140737488350000 := (HA.out.small it0 (List.mem_of_getElem? hit0)).1
      have HT0 := Lib.hid hit0
      clear hit0
      obtain ⟨a0, A0, c0, u0, l0, m0, rfl, hI0, hC0, hO0, hS0⟩ := HK1.out.at2 hl1 i hlt
      have hl00 : l0.length = it0.l.length := by
        obtain ⟨l', h1, h2, _⟩ := HM1.out.at_ i it0 HT0.out
        have h3 : l' = l0 := it_len hI0 h1
        rw [← h3]; exact h2
      go_wp2_with fail
      go_loopw [4] (fun x wr => ∃ (c : Nat) (its2 : List It), c ≤ it0.l.length ∧ x = .int .i64 c ∧ Kst wr N p (.slice (some a0) its.length cl) (.slice Aw its.length cw) its2 ∧ Mkd its its2 (fun k j => k < i ∨ (k = i ∧ j < c)) ∧ Fr (Vs its) w wr) (fun x _ => it0.l.length - (intOf x).toNat)
      case atStart => exact ⟨0, its1, by omega, rfl, HK1.out, HM1.out.mono (fun k j _ _ _ h => by omega), hB1⟩
      case round =>
        obtain ⟨c, its2, hc, rfl, hK2, hM2, hB2⟩ := hrel
        have hl2 := hM2.len
        have hcv2 := hK2.var.cell
        obtain ⟨a, A1, c1, u, l, m, ha, hI, hC, hO, hS⟩ := hK2.at2 hl2 i hlt
        cases ha
        have hll : l.length = it0.l.length := by
          obtain ⟨l', h1, h2, _⟩ := hM2.at_ i it0 HT0.out
          have h3 : l' = l := it_len hI h1
          rw [← h3]; exact h2
        have HK2 := Lib.hid hK2
        have HM2 := Lib.hid hM2
        have HI := Lib.hid hI
        clear hK2 hM2 hI hC0 hI0 hO0 hcv
        by_cases hlc : c < l.length
        · obtain ⟨g, cap, hg, _, _⟩ := hO.form (by omega)
          injection hg with hg1 _ hg2
          subst hg1 hg2
          have hcell := hO.at_ c hlc
          obtain ⟨hcell1, hfroz⟩ := hcell
          have HO := Lib.hid hO
          clear hO
          go_wp2
          go_roundw
          case rel =>
            obtain ⟨X, Y, hXY, hX⟩ := split_at its2 i _ HI.out
            have hK := HK2.out
            rw [hXY] at hK
            have hg := grownBy_set wr g c (.int .u8 (mark i))
            have hw := hK.write (Fr.grown hg fun k hk => by cases hk; rfl) (HO.out.set c (mark i)) (by simp only [List.length_set]; exact hS)
            refine ⟨c + 1, _, by omega, by go_num, hw, ?_, hB2.more hg fun b hb => .inl (HM2.out.vs ⟨_, List.mem_of_getElem? HI.out, hb⟩)⟩
            exact (HM2.out.put hXY hX hlc).mono fun k j _ _ _ h => by omega
          case measure => simp [intOf]; omega
        · have hlc2 : it0.l.length ≤ c := by omega
          go_wp2
          go_roundw
          case rel => exact ⟨i + 1, its2, by omega, by go_num, HK2.out, HM2.out.mono (fun k j it hk hj h => by
            by_cases hki : k = i
            · subst hki
              have := Option.some.inj (hk.symm.trans HT0.out)
              subst this
              omega
            · omega), hB2⟩
          case measure => simp [intOf]; omega
    · have hii : i = its.length := by omega
      have hlt2 : its.length ≤ i := by omega
      have hM2 := HM1.out.mono (R := fun _ _ => True) (fun k j it hk _ _ => by
        have := (List.getElem?_eq_some_iff.1 hk).1
        omega)
      have HM2 := Lib.hid hM2
      clear hM2 hii HM1
      have hmk : ∀ k it, its1[k]? = some it → it.l = List.replicate it.l.length (mark k) := by
        intro k it hk
        have hk1 : k < its.length := by
          have := (List.getElem?_eq_some_iff.1 hk).1
          omega
        obtain ⟨l', h1, h2, h3⟩ := HM2.out.at_ k _ (List.getElem?_eq_getElem hk1)
        have h4 : it.l = l' := it_len h1 hk
        rw [h4]
        exact rep_of l' _ fun j hj => h3 j hj trivial
      have HMK := Lib.hid hmk
      have HN := Lib.hid HK1.out.lt
      have HP := Lib.hid HK1.out.sep
      have HL1 := Lib.hid HK1.out.lst
      clear hmk
      generalize hN1 : wr.heap.size = N1 at *
      have hwN1 : w.heap.size ≤ N1 := by rw [← hN1]; exact hB1.size
      go_wp2_with fail
      go_loopw [5, 6] (fun mv x wq => ∃ (j : Nat) (gs : List Value), j ≤ its.length ∧ x = .int .i64 j ∧ Lst wq N p (.slice Al its.length cl) (.slice Aw its.length cw) its1 j ∧ Mor wq N1 its1 mv j gs ∧ Fr (Vs its) w wq ∧ N1 ≤ wq.heap.size) (fun _ x _ => its.length - (intOf x).toNat)
      case atStart => exact ⟨0, [], by omega, rfl, HL1.out, ⟨Ow.nil _ _ _, From.nil _ _ _, fun k g it hg _ => by simp at hg⟩, hB1, by omega⟩
      case round =>
        obtain ⟨j, gs, hj, rfl, hL2, hM3, hB2, hS2⟩ := hrel
        have hcv2 := hL2.var.cell
        have HL2 := Lib.hid hL2
        have HM3 := Lib.hid hM3
        clear hL2 hM3 hcv
        by_cases hlt3 : j < its.length
        · obtain ⟨it0, hit0⟩ : ∃ it0, its1[j]? = some it0 := ⟨_, List.getElem?_eq_getElem (by omega)⟩
          have hmk0 := HMK.out j it0 hit0
          obtain ⟨X, Y, hXY, hXj⟩ := split_at its1 j it0 hit0
          have hlt0 : ∀ b, it0.v.ownBlock = some b → b < N1 := HN.out it0.v (by rw [hXY]; simp [pcs, vals])
          have hsl : it0.l.length ≤ 140737488350000 := (HL2.out.small it0 (List.mem_of_getElem? hit0)).1
          have hown0 : OwB wr it0.v it0.l := HL2.out.own j it0 (Nat.le_refl _) hit0
          obtain ⟨a, A1, c1, u, l, m, rfl, hI, hC, hO, hS⟩ := HL2.out.at2 hl1 j hlt3
          have hv0 : it0 = ⟨.slice A1 l.length c1, u, l, m⟩ := Option.some.inj (hit0.symm.trans hI)
          subst hv0
          simp only at hmk0 hlt0 hsl hown0
          have hwm : Hid (1 + (j : Int) % 250 = mark j) := rfl
          have HMK0 := Lib.hid hmk0
          have HXY := Lib.hid hXY
          have HI := Lib.hid hI
          have HO0 := Lib.hid hown0
          have HR0 := Lib.hid hO
          have hBw := hB2.size
          clear hmk0 hXY hI hown0 hit0 hO
          go_wp2_with fail
          go_loopw [7, 8] (fun g x wq => ∃ c : Nat, c ≤ 70 ∧ x = .int .i64 c ∧ Fr (Blk (.slice A1 l.length c1)) wr wq ∧ OwB wq g (List.replicate (l.length + c) (mark j)) ∧ RdB wq (.slice A1 l.length c1) l ∧ (∀ b, g.ownBlock = some b → (Value.slice A1 l.length c1).ownBlock = some b ∨ wr.heap.size ≤ b)) (fun _ x _ => (70 - intOf x).toNat)
          case atStart => exact ⟨0, by omega, rfl, Fr.ext (Ext.refl _) _, by rw [Nat.add_zero, ← HMK0.out]; exact HO0.out, HR0.out, fun b hb => .inl hb⟩
          case round =>
            obtain ⟨c, hc, rfl, hF, hG, hV, hB⟩ := hrel
            by_cases hlc : c < 70
            · have HF := Lib.hid hF
              have HV := Lib.hid hV
              have HB := Lib.hid hB
              clear hF hV hB
              go_wp2_with (at_builtin; refine appB2 rfl (.tmp 68) (.tmp 73) rfl rfl rfl (hG.alloc _) (RdB.lit _ [mark j]) (by simp; omega) ?_; intro g2 w2 hG2 hg2 hat2)
              go_roundw
              case rel =>
                have hrep : List.replicate (l.length + c) (mark j) ++ [mark j] = List.replicate (l.length + (c + 1)) (mark j) := by
                  rw [← Nat.add_assoc, List.replicate_succ']
                rw [hrep] at hG2
                refine ⟨c + 1, by omega, by go_num, (HF.out.trans (Fr.ext ((Ext.refl _).alloc _) _)).more hg2 HB.out, hG2, ?_, ?_⟩
                · rcases hat2 with e | ⟨_, e⟩
                  · by_cases hsh : ∃ b, (Value.slice A1 l.length c1).ownBlock = some b ∧ g2.ownBlock = some b
                    · obtain ⟨b, hb1, hb2⟩ := hsh
                      refine RdB.share HO0.out hG2 (fun b' hb' => by rw [hb1] at hb'; cases hb'; exact hb2) fun q hq => ?_
                      rw [List.length_replicate]
                      refine ⟨by omega, ?_⟩
                      rw [gt_rep _ _ _ (by omega)]
                      conv => rhs; rw [HMK0.out]
                      rw [gt_rep _ _ _ hq]
                    · refine (HV.out.alloc _).other hg2 fun k hk hk' => hsh ⟨k, hk, ?_⟩
                      rw [e]; exact hk'
                  · exact (HV.out.alloc _).ext e
                · intro b hb
                  rcases hat2 with e | ⟨e, _⟩
                  · exact HB.out b (by rw [← hb, e]; rfl)
                  · rw [hb] at e
                    cases e
                    right
                    have := HF.out.size
                    simp; omega
              case measure => simp [intOf]; omega
            · have hc70 : c = 70 := by omega
              subst hc70
              obtain ⟨Ag, cg, rfl, hcg⟩ := hG.rd.shape
              rw [List.length_replicate] at hcg
              have hM4 := HM3.out.fr2 HXY.out hXj hF HP.out hlt0
              have hL4 := HL2.out.next2 HXY.out hXj hF hV
              have hB4 := hB2.trans (hF.mono fun b _ hb => HM2.out.vs ⟨_, List.mem_of_getElem? HI.out, hb⟩)
              have hS4 := Nat.le_trans hS2 hF.size
              have HG := Lib.hid hG
              have HM4 := Lib.hid hM4
              have HL4 := Lib.hid hL4
              have HB4 := Lib.hid hB4
              simp only [List.length_replicate] at hB
              have HBk := Lib.hid hB
              have hgsz := hF.size
              clear hM4 hL4 hB4 hF hG hV hB
              simp only [List.length_replicate]
              go_wp2_with (at_builtin; refine appS rfl (.tmp 75) (.tmp 77) rfl rfl rfl (HM4.out.own.alloc _) (Rd.one _ _ _) (by simp [Value.oneCell']) (by omega) ?_; intro mv2 w5 ho5 hg5 hat5)
              go_roundw
              case rel =>
                refine ⟨j + 1, gs ++ [.slice Ag (l.length + 70) cg], by omega, by go_num, ?_, ?_, ?_, ?_⟩
                · exact (HL4.out.ext ((Ext.refl _).alloc (.cells #[.slice Ag (l.length + 70) cg] 23))).fr (Fr.grown (S := Blk u5) hg5 fun k hk => hk) fun z hz k hk hb => by
                    have h1 := HN.out z hz k hk
                    have h2 := HM4.out.frm k hb
                    omega
                · refine (HM4.out.ext ((Ext.refl _).alloc (.cells #[.slice Ag (l.length + 70) cg] 23))).push HI.out hg5 hat5 ho5 ?_ (fun b hb => (HBk.out b hb).imp_right fun h => Nat.le_trans hS2 h) (fun k hk hk' => ?_) (by simp; omega)
                  · have h := HG.out.rd.alloc (.cells #[.slice Ag (l.length + 70) cg] 23)
                    rw [List.length_replicate] at h
                    exact h
                  · rcases HBk.out k hk with h | h
                    · have h1 := hlt0 k h
                      have h2 := HM4.out.frm k hk'
                      omega
                    · have h1 := HM3.out.own.lt k hk'
                      omega
                · exact (HB4.out.trans (Fr.ext ((Ext.refl _).alloc (.cells #[.slice Ag (l.length + 70) cg] 23)) _)).more hg5 fun k hk => .inr (Nat.le_trans hwN1 (HM4.out.frm k hk))
                · have := hg5.size
                  simp at this
                  omega
              case measure => simp [intOf]; omega
        · have hjj : j = its.length := by omega
          have hjl : its.length ≤ j := by omega
          have hL5 := HL2.out
          have hjl1 : j = its1.length := by omega
          have HJ := Lib.hid hjl1
          have HL5 := Lib.hid hL5
          have HM5 := Lib.hid HM3.out
          obtain ⟨Am, cm, rfl, hcm⟩ := HM3.out.own.shape
          have hcv5 := hL5.var.cell
          clear hL5 hjj hcv2 hjl1
          go_wp2_with fail
          go_loopw [9] (fun x wq => Ext wr wq ∧ ∃ k : Nat, k ≤ j ∧ x = .int .i64 k) (fun x _ => j - (intOf x).toNat)
          case atStart => exact ⟨Ext.refl _, 0, by omega, rfl⟩
          case round =>
            obtain ⟨he5, k, hk, rfl⟩ := hrel
            by_cases hkj : k < j
            · have hgl : gs.length = j := by have := HM5.out.own.1; omega
              obtain ⟨a, A1, c1, u, l, m, rfl, hI, hC, hO, hS⟩ := HL5.out.at2 hl1 k (by omega)
              obtain ⟨gk, hgk⟩ : ∃ gk, gs[k]? = some gk := ⟨_, List.getElem?_eq_getElem (by omega)⟩
              have hlk : l = List.replicate l.length (mark k) := HMK.out k _ hI
              obtain ⟨hgr, _, _⟩ := HM5.out.at_ k gk _ hgk hI
              obtain ⟨_, _, _, e, _, hcells⟩ := HM5.out.own.rd
              cases e
              obtain ⟨am, rfl, hcm2⟩ := hcells k gk hgk
              obtain ⟨Bg, dg, rfl, hdg⟩ := hgr.shape
              simp only at hgr hdg hcm2 hgk
              rw [List.length_replicate] at hgr hdg hcm2 hgk
              have HGR := Lib.hid hgr
              have HO := Lib.hid hO
              have HLK := Lib.hid hlk
              have hpw := HL5.out.var.lt
              have hcp := fun o => (he5.cells p o hpw).trans (hcv5 o)
              have hC2 := he5.cell hC
              have hcm3 := he5.cell hcm2
              clear hcells hgk hI hlk hgr hO
              go_wp2_with fail
              go_loopw [10] (fun x wq => Ext wr wq ∧ ∃ c : Nat, c ≤ l.length + 70 ∧ x = .int .i64 c) (fun x _ => l.length + 70 - (intOf x).toNat)
              case atStart => exact ⟨Ext.refl _, 0, by omega, rfl⟩
              case round =>
                obtain ⟨he6, c, hc, rfl⟩ := hrel
                have hE := he5.trans he6
                have hcq := fun o => (hE.cells p o hpw).trans (hcv5 o)
                have hC4 := hE.cell hC
                have hcm4 := hE.cell hcm2
                clear hcp hC2 hcm3
                by_cases hcl : c < l.length + 70
                · obtain ⟨ag, rfl, hbg⟩ := (HGR.out.ext hE).at_ c (by rw [List.length_replicate]; exact hcl)
                  rw [gt_rep _ _ _ hcl] at hbg
                  by_cases hcl2 : c < l.length
                  · obtain ⟨av, rfl, hbv⟩ := (HO.out.ext hE).at_ c hcl2
                    have e2 : gt l c = mark k := by
                      conv => lhs; rw [HLK.out]
                      exact gt_rep _ _ _ hcl2
                    rw [e2] at hbv
                    clear e2
                    unfold mark at hbg hbv
                    go_wp2
                    go_roundw
                    case rel => exact ⟨he6, c + 1, by omega, by go_num⟩
                    case measure => simp [intOf]; omega
                  · unfold mark at hbg
                    go_wp2
                    go_roundw
                    case rel => exact ⟨he6, c + 1, by omega, by go_num⟩
                    case measure => simp [intOf]; omega
                · have hcl3 : l.length + 70 ≤ c := by omega
                  go_wp2
                  go_roundw
                  case rel => exact ⟨hE, k + 1, by omega, by go_num⟩
                  case measure => simp [intOf]; omega
            · go_wp2
              go_ret
              exact ⟨rfl, hB2.trans (Fr.ext he5 _), its1, by have h := HL5.out.ext he5; rw [HJ.out] at h; exact h, HM2.out⟩
end Go.Proofs.Ytckhefkedkipeaa

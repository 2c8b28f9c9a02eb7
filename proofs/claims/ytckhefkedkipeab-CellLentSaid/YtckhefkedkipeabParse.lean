/- Package cell: parse, which reads a key. -/
import Derived.Test.YtckhefkedkipeabPack
namespace Go.Proofs.Ytckhefkedkipeab
open Go.RowKit
theorem rOrd_ok : ∀ (n : Nat) (s : List Int) (out : List Int) (p : Nat), s.length ≤ n → (rOrd s out p).2.2 = 0 → (p : Int) < (rOrd s out p).2.1 ∧ (rOrd s out p).2.1 ≤ p + s.length ∧ (rOrd s out p).1.length ≤ out.length + s.length := by
  intro n
  induction n with
  | zero => intro s out p hs h; have : s = [] := List.eq_nil_of_length_eq_zero (by omega); subst this; simp [rOrd] at h
  | succ n ih =>
    intro s out p hs h
    cases s with
    | nil => simp [rOrd] at h
    | cons c s =>
      by_cases hc : c = 0
      · subst hc
        cases s with
        | nil => simp [rOrd] at h
        | cons d s =>
          by_cases h1 : d = 1
          · subst h1
            rw [rOrd_end] at h ⊢
            simp; omega
          · by_cases h2 : d = 255
            · subst h2
              rw [rOrd_zero] at h ⊢
              have := ih s _ _ (by simp at hs; omega) h
              simp at this ⊢; omega
            · rw [rOrd_bad d s out p h1 h2] at h; simp at h
      · rw [rOrd_put c s out p hc] at h ⊢
        have := ih s _ _ (by simp at hs; omega) h
        simp at this ⊢; omega
theorem rOrd_bad_nil : ∀ (n : Nat) (s : List Int) (out : List Int) (p : Nat), s.length ≤ n → (rOrd s out p).2.2 ≠ 0 → (rOrd s out p).1 = [] := by
  intro n
  induction n with
  | zero => intro s out p hs h; have : s = [] := List.eq_nil_of_length_eq_zero (by omega); subst this; simp [rOrd]
  | succ n ih =>
    intro s out p hs h
    cases s with
    | nil => simp [rOrd]
    | cons c s =>
      by_cases hc : c = 0
      · subst hc
        cases s with
        | nil => simp [rOrd]
        | cons d s =>
          by_cases h1 : d = 1
          · subst h1; rw [rOrd_end] at h; simp at h
          · by_cases h2 : d = 255
            · subst h2
              rw [rOrd_zero] at h ⊢
              exact ih s _ _ (by simp at hs; omega) h
            · rw [rOrd_bad d s out p h1 h2]
      · rw [rOrd_put c s out p hc] at h ⊢
        exact ih s _ _ (by simp at hs; omega) h
theorem readOrdered_ok (l : List Int) (i : Int) (h : (readOrderedL l i).2.2 = 0) : 0 ≤ i ∧ i < (readOrderedL l i).2.1 ∧ (readOrderedL l i).2.1 ≤ l.length := by
  unfold readOrderedL at h ⊢
  by_cases ho : outsideL l i = true
  · rw [if_pos ho] at h; simp at h
  · rw [if_neg ho] at h ⊢
    have ho' : outsideL l i = false := by simpa using ho
    have hb : 0 ≤ i ∧ i ≤ l.length := by simp [outsideL] at ho'; omega
    have := rOrd_ok _ _ _ _ (Nat.le_refl _) h
    simp only [List.length_drop] at this
    omega
theorem readFalling_ok (l : List Int) (i : Int) (h : (readFallingL l i).2.2 = 0) : 0 ≤ i ∧ i + 8 ≤ (readFallingL l i).2.1 ∧ (readFallingL l i).2.1 ≤ l.length := by
  have hr : (readRisingL l i).2.2 = 0 := by
    unfold readFallingL at h
    by_cases h0 : (readRisingL l i).2.2 = 0
    · exact h0
    · rw [if_neg h0] at h; exact absurd h h0
  have e : (readFallingL l i).2.1 = (readRisingL l i).2.1 := by unfold readFallingL; rw [if_pos hr]
  rw [e]
  unfold readRisingL at hr ⊢
  by_cases ho : outsideL l i = true
  · rw [if_pos ho] at hr; simp at hr
  · rw [if_neg ho] at hr ⊢
    have ho' : outsideL l i = false := by simpa using ho
    have hb : 0 ≤ i ∧ i ≤ l.length := by simp [outsideL] at ho'; omega
    by_cases h8 : (l.length : Int) - i < 8
    · rw [if_pos h8] at hr; simp at hr
    · rw [if_neg h8] at hr ⊢
      by_cases h1 : 127 < gt l i.toNat
      · rw [if_pos h1] at hr; simp at hr
      · rw [if_neg h1]; exact ⟨hb.1, Int.le_refl _, by dsimp only; omega⟩

def parseTail (l row : List Int) (fam : Int) (qual : List Int) (i : Int) : Option Ent :=
  if (readFallingL l i).2.2 ≠ 0 then none else
  if (readFallingL l (readFallingL l i).2.1).2.2 ≠ 0 ∨ (l.length : Int) ≤ (readFallingL l (readFallingL l i).2.1).2.1 then none else
  some ⟨row, fam, qual, (readFallingL l i).1, (readFallingL l (readFallingL l i).2.1).1, wrap64 (gt l (readFallingL l (readFallingL l i).2.1).2.1.toNat), []⟩
/-- A key's fields; none: they are not there. -/
def parseL (l : List Int) : Option Ent :=
  let r := readOrderedL l 0
  if r.2.2 ≠ 0 ∨ (l.length : Int) < r.2.1 + 2 then none else
  let fam := wrap64 (gt l r.2.1.toNat)
  if gt l (r.2.1.toNat + 1) = 0 then parseTail l r.1 fam [] (r.2.1 + 2) else
  let q := readOrderedL l (r.2.1 + 2)
  if q.2.2 ≠ 0 ∨ (l.length : Int) ≤ q.2.1 then none else parseTail l r.1 fam q.1 (q.2.1 + 1)

/-- A slice. -/
def isSl (v : Value) : Prop := ∃ A n c, v = .slice A n c
def OutP (w : World) (o : Option Ent) (e : Ending) (w' : World) : Prop :=
  match o with
  | some en => ∃ r q x, e = .returned (.tuple #[.agg (entCells r q x en), .bool true]) ∧ OwE w' r q x en ∧ FromE w.heap.size r q x ∧ Ext w w'
  | none => ∃ r q x en, e = .returned (.tuple #[.agg (entCells r q x en), .bool false]) ∧ isSl r ∧ isSl q ∧ isSl x ∧ Ext w w'
def zeroV : Array Value := #[.slice none 0 0, .int .i64 0, .slice none 0 0, .int .i64 0, .int .i64 0, .int .i64 0, .slice none 0 0]

set_option maxHeartbeats 1000000 in
set_option maxRecDepth 100000 in
theorem parse_ok (v : Value) (l : List Int) (w : World) (hv : RdB w v l) (hl : l.length ≤ 140737488355327) : Calls Try.prog 26 #[v] w (OutP w (parseL l)) := by
  have hW : Ext w ((w.alloc (.cells zeroV 24)).alloc (.cells zeroV 24)) := ((Ext.refl _).alloc _).alloc _
  have hV2 : Var ((w.alloc (.cells zeroV 24)).alloc (.cells zeroV 24)) w.heap.size 24 zeroV := (Var.new w _ _).alloc _
  have hV4 : Var ((w.alloc (.cells zeroV 24)).alloc (.cells zeroV 24)) (w.heap.size + 1) 24 zeroV := by
    have := Var.new (w.alloc (.cells zeroV 24)) zeroV 24
    simpa using this
  generalize hWg : (w.alloc (.cells zeroV 24)).alloc (.cells zeroV 24) = W at *
  have hlt2 : w.heap.size < W.heap.size := hV2.lt
  have hlt4 : w.heap.size + 1 < W.heap.size := hV4.lt
  have HRd := Lib.hid hv
  obtain ⟨A, c, rfl, hc⟩ := hv.shape
  have hok := readOrdered_ok l 0
  have HO0 := ReadOrdered_ok _ l 0 W (hv.ext hW) hl
  have HO := Lib.hid (fun (W : World) (i : Int) (h : Ext w W) => ReadOrdered_ok _ l i W (hv.ext h) hl)
  have HFa := Lib.hid (fun (W : World) (i : Int) (h : Ext w W) => ReadFalling_ok _ l i W (hv.ext h) hl)
  obtain ⟨R, hR⟩ : ∃ R, R = parseL l := ⟨_, rfl⟩
  rw [← hR]
  unfold parseL at hR
  generalize readOrderedL l 0 = R0 at *
  obtain ⟨row, p, er⟩ := R0
  dsimp only at hR hok
  have HOH := Lib.hid HO0
  have HRH := Lib.hid hR
  clear HO0 hv hR
  unfold zeroV at *
  go_enter Try.func26, Try.ntmps26
  go_wp2_with fail
  refine HOH.out.mono ?_
  rintro e0 w1 ⟨v5, rfl, ho5, hf5, he5⟩
  clear HOH hWg
  have hE := hW.trans he5
  have hs1 := he5.size
  have hV2' := hV2.ext he5
  have hV4' := hV4.ext he5
  clear hV2 hV4 he5 hW
  have hR := HRH.out
  clear HRH
  have hbw : w.heap.size ≤ w.heap.size := Nat.le_refl _
  by_cases her : er ≠ 0 ∨ (l.length : Int) < p + 2
  · rw [if_pos her] at hR
    subst hR
    have hc2 := hV2'.cell
    have hc4 := hV4'.cell
    have hz2 := hV2'.frozen
    obtain ⟨w2, hw2, hV2s, hg2⟩ := store7 hV2' rfl (.slice none 0 0) (.int .i64 0) (.slice none 0 0) (.int .i64 0) (.int .i64 0) (.int .i64 0) (.slice none 0 0)
    have hcs2 := hV2s.cell
    by_cases h0 : er = 0
    · subst h0
      have hp : (l.length : Int) < p + 2 := by simpa using her
      clear her
      have hpk := hok rfl
      obtain ⟨hp0, hp1, hp2⟩ := hpk
      clear hok
      go_wp2
      exact bodyPost_ret (v := .tuple #[.agg (entCells (.slice none 0 0) (.slice none 0 0) (.slice none 0 0) Ent.zero), .bool false]) (by simp [results, Try.results26, go_sem, entCells, Ent.zero, hcs2]) rfl ⟨_, _, _, _, rfl, ⟨_, _, _, rfl⟩, ⟨_, _, _, rfl⟩, ⟨_, _, _, rfl⟩, hE.put hg2 hbw⟩
    · have hb : ((er : Int) != 0) = true := by simpa using h0
      clear her h0 hok
      go_wp2
      exact bodyPost_ret (v := .tuple #[.agg (entCells (.slice none 0 0) (.slice none 0 0) (.slice none 0 0) Ent.zero), .bool false]) (by simp [results, Try.results26, go_sem, entCells, Ent.zero, hcs2]) rfl ⟨_, _, _, _, rfl, ⟨_, _, _, rfl⟩, ⟨_, _, _, rfl⟩, ⟨_, _, _, rfl⟩, hE.put hg2 hbw⟩
  · rw [if_neg her] at hR
    have her0 : er = 0 := Classical.byContradiction fun h => her (.inl h)
    have hp2 : p + 2 ≤ l.length := by have := fun h => her (.inr h); omega
    subst her0
    obtain ⟨_, hp0, _⟩ := hok rfl
    obtain ⟨n, rfl⟩ := Int.eq_ofNat_of_zero_le (show 0 ≤ p by omega)
    clear her hok
    rw [Int.toNat_natCast] at hR
    obtain ⟨ad, rfl, hcn⟩ := (HRd.out.ext hE).at_ n (by omega)
    obtain ⟨ad', e', hcn1⟩ := (HRd.out.ext hE).at_ (n + 1) (by omega)
    cases e'
    rw [addr_succ] at hcn1
    have hadb : ad.block < w.heap.size := by
      obtain ⟨ad', e', h⟩ := HRd.out.at_ n (by omega)
      cases e'
      have := World.block_lt_of_cell? _ _ h
      have hb : (ad.add n).block = ad.block := by unfold Addr.add; split <;> rfl
      omega
    have hbn : ¬ w.heap.size + 1 = (ad.add n).block := by
      have hb : (ad.add n).block = ad.block := by unfold Addr.add; split <;> rfl
      omega
    have hc4 := hV4'.cell
    have hz4 := hV4'.frozen
    have hx1 : IntKind.i64.wrap (gt l n) = wrap64 (gt l n) := IntWalk.i64_left _
    have HR := Lib.hid hR
    generalize wrap64 (gt l n) = fam at *
    clear hR
    obtain ⟨A5, c5, rfl, _⟩ := ho5.rd.shape
    have hn0 : (0 : Int) ≤ (n : Int) := Int.natCast_nonneg _
    have hn1 : (n : Int) < (l.length : Int) := by omega
    go_wp2
    go_region_held3 (fun w' => w'.cell? (ad.add n) = some (.int .u8 (gt l n))) (go_keep) (fail)
    generalize hw2 : ((w1.setCell ⟨w.heap.size + 1, 0, none⟩ (Value.slice A5 row.length c5)).setCell ⟨w.heap.size + 1, 1, none⟩ (.int .i64 fam)).drew = w2
    have hn5 : (Value.slice A5 row.length c5).ownBlock ≠ some (w.heap.size + 1) := hf5.ne (by omega)
    have hE2 : Ext w w2 := by rw [← hw2]; exact ((hE.setCell (by simp) _).setCell (by simp) _).drew
    have hV2b : Var w2 w.heap.size 24 #[.slice none 0 0, .int .i64 0, .slice none 0 0, .int .i64 0, .int .i64 0, .int .i64 0, .slice none 0 0] := by rw [← hw2]; exact ((hV2'.set_other (by omega) 0 _).set_other (by omega) 1 _).drew
    have hV4b : Var w2 (w.heap.size + 1) 24 #[.slice A5 row.length c5, .int .i64 fam, .slice none 0 0, .int .i64 0, .int .i64 0, .int .i64 0, .slice none 0 0] := by
      rw [← hw2]; exact ((hV4'.set 0 _).set 1 _).drew
    have ho5b : OwB w2 (.slice A5 row.length c5) row := by rw [← hw2]; exact ((Ow.set_var (Ow.set_var ho5 hn5 0 _) hn5 1 _)).drew
    have hs2 : W.heap.size ≤ w2.heap.size := by rw [← hw2]; simpa using hs1
    clear hw2 hV2' hV4' ho5 hE hcn hcn1 hc4 hz4 hbn hn5 hx1
    obtain ⟨ad', e', hcn1⟩ := (HRd.out.ext hE2).at_ (n + 1) (by omega)
    cases e'
    rw [addr_succ] at hcn1
    have hfR : From W.heap.size (Value.slice A5 row.length c5) := hf5
    have hn2 : (n : Int) + 1 < (l.length : Int) := by omega
    by_cases hpl : gt l (n + 1) = 0
    case pos =>
      have hR := HR.out
      rw [if_pos hpl] at hR
      clear HR
      have HR := Lib.hid hR
      have hbp : ((gt l (n + 1) : Int) != 0) = false := by simpa using hpl
      clear hR hpl
      have hE3 := hE2
      have hV2t := hV2b
      have hV4t := hV4b
      have hoR := ho5b
      have hoQ := OwB.nil w2
      have hfQ := From.nil W.heap.size 0 0
      have hsep := Sep.nil (Value.slice A5 row.length c5) 0 0
      obtain ⟨wA, hwA⟩ : ∃ wA, wA = w2 := ⟨_, rfl⟩
      subst hwA
      have HF1 := HFa.out wA ((n : Int) + 2) hE3
      have hok1 := readFalling_ok l ((n : Int) + 2)
      have hR := HR.out
      unfold parseTail at hR
      generalize readFallingL l ((n : Int) + 2) = F1 at *
      obtain ⟨ts, p1, e1⟩ := F1
      dsimp only at hR hok1
      have HH1 := Lib.hid HF1
      clear HF1 HR
      have HR1 := Lib.hid hR
      clear hR
      have hcA4 := hV4t.cell
      have hzA4 := hV4t.frozen
      obtain ⟨wB, hwB⟩ : ∃ wB, wA.setCell ⟨w.heap.size + 1, 3, none⟩ (.int .i64 ts) = wB := ⟨_, rfl⟩
      have hEB : Ext w wB := by rw [← hwB]; exact hE3.setCell (by simp) _
      have hV2B := hV2t.set_other (show w.heap.size ≠ w.heap.size + 1 by omega) 3 (.int .i64 ts)
      have hV4B := hV4t.set 3 (.int .i64 ts)
      rw [hwB] at hV2B hV4B
      have hoRB : OwB wB (.slice A5 row.length c5) row := by rw [← hwB]; exact Ow.set_var hoR (hfR.ne (by omega)) 3 _
      have hoQB : OwB wB (.slice none 0 0) [] := by rw [← hwB]; exact Ow.set_var hoQ (hfQ.ne (by omega)) 3 _
      have hcB4 := hV4B.cell
      have hcB2 := hV2B.cell
      have hzB2 := hV2B.frozen
      have hzB4 := hV4B.frozen
      have HF2 := HFa.out wB p1 hEB
      have hok2 := readFalling_ok l p1
      by_cases he1 : e1 = 0
      case neg =>
        have hR1 := HR1.out
        rw [if_pos he1] at hR1
        subst hR1
        have hb1 : ((e1 : Int) != 0) = true := by simpa using he1
        obtain ⟨w9, hw9, hV9, hg9⟩ := store7 hV2B rfl (.slice A5 row.length c5) (.int .i64 fam) (.slice none 0 0) (.int .i64 ts) (.int .i64 0) (.int .i64 0) (.slice none 0 0)
        have hc9 := hV9.cell
        clear he1 hok1 hok2 HF2 HR1
        go_wp2_with (go_at_call 35; (with_reducible refine HH1.out.mono ?_); rintro e0 w' ⟨rfl, rfl⟩)
        exact bodyPost_ret (v := .tuple #[.agg (entCells (.slice A5 row.length c5) (.slice none 0 0) (.slice none 0 0) ⟨row, fam, [], ts, 0, 0, []⟩), .bool false]) (by simp [results, Try.results26, go_sem, entCells, hc9]) rfl ⟨_, _, _, _, rfl, ⟨_, _, _, rfl⟩, ⟨_, _, _, rfl⟩, ⟨_, _, _, rfl⟩, hEB.put hg9 hbw⟩
      have hk1 := hok1 he1
      subst he1
      have hR1 := HR1.out
      rw [if_neg (by simp)] at hR1
      clear HR1 hok1
      generalize readFallingL l p1 = F2 at *
      obtain ⟨seq, p2, e2⟩ := F2
      dsimp only at hR1 hok2
      have HH2 := Lib.hid HF2
      clear HF2
      obtain ⟨wC, hwC⟩ : ∃ wC, wB.setCell ⟨w.heap.size + 1, 4, none⟩ (.int .i64 seq) = wC := ⟨_, rfl⟩
      have hEC : Ext w wC := by rw [← hwC]; exact hEB.setCell (by simp) _
      have hV2C := hV2B.set_other (show w.heap.size ≠ w.heap.size + 1 by omega) 4 (.int .i64 seq)
      have hV4C := hV4B.set 4 (.int .i64 seq)
      rw [hwC] at hV2C hV4C
      have hoRC : OwB wC (.slice A5 row.length c5) row := by rw [← hwC]; exact Ow.set_var hoRB (hfR.ne (by omega)) 4 _
      have hoQC : OwB wC (.slice none 0 0) [] := by rw [← hwC]; exact Ow.set_var hoQB (hfQ.ne (by omega)) 4 _
      have hcC4 := hV4C.cell
      have hcC2 := hV2C.cell
      have hzC2 := hV2C.frozen
      have hzC4 := hV4C.frozen
      by_cases he2 : e2 ≠ 0 ∨ (l.length : Int) ≤ p2
      case pos =>
        rw [if_pos he2] at hR1
        subst hR1
        obtain ⟨w9, hw9, hV9, hg9⟩ := store7 hV2C rfl (.slice A5 row.length c5) (.int .i64 fam) (.slice none 0 0) (.int .i64 ts) (.int .i64 seq) (.int .i64 0) (.slice none 0 0)
        have hc9 := hV9.cell
        by_cases he3 : e2 = 0
        case neg =>
          have hb2 : ((e2 : Int) != 0) = true := by simpa using he3
          clear he2 he3 hok2
          go_wp2_with (first | (go_at_call 35; (with_reducible refine HH1.out.mono ?_); rintro e0 w' ⟨rfl, rfl⟩) | (go_at_call 35; (with_reducible refine HH2.out.mono ?_); rintro e0 w' ⟨rfl, rfl⟩))
          exact bodyPost_ret (v := .tuple #[.agg (entCells (.slice A5 row.length c5) (.slice none 0 0) (.slice none 0 0) ⟨row, fam, [], ts, seq, 0, []⟩), .bool false]) (by simp [results, Try.results26, go_sem, entCells, hc9]) rfl ⟨_, _, _, _, rfl, ⟨_, _, _, rfl⟩, ⟨_, _, _, rfl⟩, ⟨_, _, _, rfl⟩, hEC.put hg9 hbw⟩
        subst he3
        have hge : (l.length : Int) ≤ p2 := by simpa using he2
        have hk2 := hok2 rfl
        clear he2 hok2
        go_wp2_with (first | (go_at_call 35; (with_reducible refine HH1.out.mono ?_); rintro e0 w' ⟨rfl, rfl⟩) | (go_at_call 35; (with_reducible refine HH2.out.mono ?_); rintro e0 w' ⟨rfl, rfl⟩))
        exact bodyPost_ret (v := .tuple #[.agg (entCells (.slice A5 row.length c5) (.slice none 0 0) (.slice none 0 0) ⟨row, fam, [], ts, seq, 0, []⟩), .bool false]) (by simp [results, Try.results26, go_sem, entCells, hc9]) rfl ⟨_, _, _, _, rfl, ⟨_, _, _, rfl⟩, ⟨_, _, _, rfl⟩, ⟨_, _, _, rfl⟩, hEC.put hg9 hbw⟩
      rw [if_neg he2] at hR1
      have he20 : e2 = 0 := Classical.byContradiction fun h => he2 (.inl h)
      have hlt9 : p2 < l.length := by have := fun h => he2 (.inr h); omega
      have hk2 := hok2 he20
      subst he20
      obtain ⟨m, rfl⟩ := Int.eq_ofNat_of_zero_le (show 0 ≤ p2 by omega)
      rw [Int.toNat_natCast] at hR1
      clear he2 hok2
      obtain ⟨ad9, e9, hcm⟩ := (HRd.out.ext hEC).at_ m (by omega)
      cases e9
      have hm0 : (0 : Int) ≤ (m : Int) := Int.natCast_nonneg _
      have hx9 : IntKind.i64.wrap (gt l m) = wrap64 (gt l m) := IntWalk.i64_left _
      have HR2 := Lib.hid hR1
      clear hR1
      generalize wrap64 (gt l m) = kind at *
      obtain ⟨wD, hwD⟩ : ∃ wD, wC.setCell ⟨w.heap.size + 1, 5, none⟩ (.int .i64 kind) = wD := ⟨_, rfl⟩
      have hED : Ext w wD := by rw [← hwD]; exact hEC.setCell (by simp) _
      have hV2D := hV2C.set_other (show w.heap.size ≠ w.heap.size + 1 by omega) 5 (.int .i64 kind)
      have hV4D := hV4C.set 5 (.int .i64 kind)
      rw [hwD] at hV2D hV4D
      have hoRD : OwB wD (.slice A5 row.length c5) row := by rw [← hwD]; exact Ow.set_var hoRC (hfR.ne (by omega)) 5 _
      have hoQD : OwB wD (.slice none 0 0) [] := by rw [← hwD]; exact Ow.set_var hoQC (hfQ.ne (by omega)) 5 _
      have hcD4 := hV4D.cell
      have hcD2 := hV2D.cell
      have hzD2 := hV2D.frozen
      obtain ⟨w9, hw9, hV9, hg9⟩ := store7 hV2D rfl (.slice A5 row.length c5) (.int .i64 fam) (.slice none 0 0) (.int .i64 ts) (.int .i64 seq) (.int .i64 kind) (.slice none 0 0)
      have hc9 := hV9.cell
      have hoR9 : OwB w9 (.slice A5 row.length c5) row := Ow.kept hoRD fun k hk => hg9.block k (Ow.lt hoRD k hk) (fun e => by have := hfR k hk; cases e; omega)
      have hoQ9 : OwB w9 (.slice none 0 0) [] := Ow.kept hoQD fun k hk => hg9.block k (Ow.lt hoQD k hk) (fun e => by have := hfQ k hk; cases e; omega)
      go_wp2_with (first | (go_at_call 35; (with_reducible refine HH1.out.mono ?_); rintro e0 w' ⟨rfl, rfl⟩) | (go_at_call 35; (with_reducible refine HH2.out.mono ?_); rintro e0 w' ⟨rfl, rfl⟩))
      refine bodyPost_ret (v := .tuple #[.agg (entCells (.slice A5 row.length c5) (.slice none 0 0) (.slice none 0 0) ⟨row, fam, [], ts, seq, kind, []⟩), .bool true]) (by simp [results, Try.results26, go_sem, entCells, hc9]) rfl ?_
      rw [HR2.out]
      exact ⟨_, _, _, rfl, ⟨hoR9, hoQ9, OwB.nil _, hsep, Sep.nil _ _ _, Sep.nil _ _ _⟩, ⟨hfR.mono (by omega), hfQ.mono (by omega), From.nil _ _ _⟩, hED.put hg9 hbw⟩
    have hR := HR.out
    rw [if_neg hpl] at hR
    clear HR
    have hbp : ((gt l (n + 1) : Int) != 0) = true := by simpa using hpl
    clear hpl
    have HQ := HO.out w2 ((n : Int) + 2) hE2
    have hokq := readOrdered_ok l ((n : Int) + 2)
    generalize readOrderedL l ((n : Int) + 2) = Q at *
    obtain ⟨ql, p3, e3⟩ := Q
    dsimp only at hR hokq
    have HQH := Lib.hid HQ
    have HR := Lib.hid hR
    clear HQ hR
    go_wp2_with fail
    refine HQH.out.mono ?_
    rintro e0 w3 ⟨v9, rfl, ho9, hf9, he9⟩
    clear HQH
    obtain ⟨A9, c9, rfl, _⟩ := ho9.rd.shape
    have hR := HR.out
    clear HR
    have hE3' := hE2.trans he9
    have hV2t' := hV2b.ext he9
    have hV4t' := hV4b.ext he9
    have ho5c := ho5b.ext he9
    have hs3' : W.heap.size ≤ w3.heap.size := Nat.le_trans hs2 he9.size
    have hsep : Sep (Value.slice A5 row.length c5) (Value.slice A9 ql.length c9) := Ow.sep ho5b hf9
    have hfQ : From W.heap.size (Value.slice A9 ql.length c9) := hf9.mono hs2
    have hc3 := hV4t'.cell
    have hz3 := hV4t'.frozen
    have hc32 := hV2t'.cell
    have hz32 := hV2t'.frozen
    clear hV2b hV4b ho5b he9 hE2 hcn1 hf9 hs2
    by_cases he3 : e3 ≠ 0 ∨ (l.length : Int) ≤ p3
    case pos =>
      rw [if_pos he3] at hR
      subst hR
      obtain ⟨w9, hw9, hV9, hg9⟩ := store7 hV2t' rfl (.slice A5 row.length c5) (.int .i64 fam) (.slice none 0 0) (.int .i64 0) (.int .i64 0) (.int .i64 0) (.slice none 0 0)
      have hc9 := hV9.cell
      by_cases he30 : e3 = 0
      case neg =>
        have hb3 : ((e3 : Int) != 0) = true := by simpa using he30
        clear he3 he30 hokq
        go_wp2
        exact bodyPost_ret (v := .tuple #[.agg (entCells (.slice A5 row.length c5) (.slice none 0 0) (.slice none 0 0) ⟨row, fam, [], 0, 0, 0, []⟩), .bool false]) (by simp [results, Try.results26, go_sem, entCells, hc9]) rfl ⟨_, _, _, _, rfl, ⟨_, _, _, rfl⟩, ⟨_, _, _, rfl⟩, ⟨_, _, _, rfl⟩, hE3'.put hg9 hbw⟩
      subst he30
      have hge : (l.length : Int) ≤ p3 := by simpa using he3
      have hkq := hokq rfl
      clear he3 hokq
      go_wp2
      exact bodyPost_ret (v := .tuple #[.agg (entCells (.slice A5 row.length c5) (.slice none 0 0) (.slice none 0 0) ⟨row, fam, [], 0, 0, 0, []⟩), .bool false]) (by simp [results, Try.results26, go_sem, entCells, hc9]) rfl ⟨_, _, _, _, rfl, ⟨_, _, _, rfl⟩, ⟨_, _, _, rfl⟩, ⟨_, _, _, rfl⟩, hE3'.put hg9 hbw⟩
    rw [if_neg he3] at hR
    have he30 : e3 = 0 := Classical.byContradiction fun h => he3 (.inl h)
    have hlt3 : p3 < l.length := by have := fun h => he3 (.inr h); omega
    have hkq := hokq he30
    subst he30
    clear he3 hokq
    have HR := Lib.hid hR
    clear hR
    obtain ⟨wA, hwA⟩ : ∃ wA, w3.setCell ⟨w.heap.size + 1, 2, none⟩ (.slice A9 ql.length c9) = wA := ⟨_, rfl⟩
    have hE3 : Ext w wA := by rw [← hwA]; exact hE3'.setCell (by simp) _
    have hV2t := hV2t'.set_other (show w.heap.size ≠ w.heap.size + 1 by omega) 2 (.slice A9 ql.length c9)
    have hV4t := hV4t'.set 2 (.slice A9 ql.length c9)
    rw [hwA] at hV2t hV4t
    have hoR : OwB wA (.slice A5 row.length c5) row := by rw [← hwA]; exact Ow.set_var ho5c (hfR.ne (by omega)) 2 _
    have hoQ : OwB wA (.slice A9 ql.length c9) ql := by rw [← hwA]; exact Ow.set_var ho9 (hfQ.ne (by omega)) 2 _
    have HF1 := HFa.out wA (p3 + 1) hE3
    have hok1 := readFalling_ok l (p3 + 1)
    have hR := HR.out
    unfold parseTail at hR
    generalize readFallingL l (p3 + 1) = F1 at *
    obtain ⟨ts, p1, e1⟩ := F1
    dsimp only at hR hok1
    have HH1 := Lib.hid HF1
    clear HF1 HR
    have HR1 := Lib.hid hR
    clear hR
    have hcA4 := hV4t.cell
    have hzA4 := hV4t.frozen
    obtain ⟨wB, hwB⟩ : ∃ wB, wA.setCell ⟨w.heap.size + 1, 3, none⟩ (.int .i64 ts) = wB := ⟨_, rfl⟩
    have hEB : Ext w wB := by rw [← hwB]; exact hE3.setCell (by simp) _
    have hV2B := hV2t.set_other (show w.heap.size ≠ w.heap.size + 1 by omega) 3 (.int .i64 ts)
    have hV4B := hV4t.set 3 (.int .i64 ts)
    rw [hwB] at hV2B hV4B
    have hoRB : OwB wB (.slice A5 row.length c5) row := by rw [← hwB]; exact Ow.set_var hoR (hfR.ne (by omega)) 3 _
    have hoQB : OwB wB (.slice A9 ql.length c9) ql := by rw [← hwB]; exact Ow.set_var hoQ (hfQ.ne (by omega)) 3 _
    have hcB4 := hV4B.cell
    have hcB2 := hV2B.cell
    have hzB2 := hV2B.frozen
    have hzB4 := hV4B.frozen
    have HF2 := HFa.out wB p1 hEB
    have hok2 := readFalling_ok l p1
    by_cases he1 : e1 = 0
    case neg =>
      have hR1 := HR1.out
      rw [if_pos he1] at hR1
      subst hR1
      have hb1 : ((e1 : Int) != 0) = true := by simpa using he1
      obtain ⟨w9, hw9, hV9, hg9⟩ := store7 hV2B rfl (.slice A5 row.length c5) (.int .i64 fam) (.slice A9 ql.length c9) (.int .i64 ts) (.int .i64 0) (.int .i64 0) (.slice none 0 0)
      have hc9 := hV9.cell
      clear he1 hok1 hok2 HF2 HR1
      go_wp2_with (go_at_call 35; (with_reducible refine HH1.out.mono ?_); rintro e0 w' ⟨rfl, rfl⟩)
      exact bodyPost_ret (v := .tuple #[.agg (entCells (.slice A5 row.length c5) (.slice A9 ql.length c9) (.slice none 0 0) ⟨row, fam, ql, ts, 0, 0, []⟩), .bool false]) (by simp [results, Try.results26, go_sem, entCells, hc9]) rfl ⟨_, _, _, _, rfl, ⟨_, _, _, rfl⟩, ⟨_, _, _, rfl⟩, ⟨_, _, _, rfl⟩, hEB.put hg9 hbw⟩
    have hk1 := hok1 he1
    subst he1
    have hR1 := HR1.out
    rw [if_neg (by simp)] at hR1
    clear HR1 hok1
    generalize readFallingL l p1 = F2 at *
    obtain ⟨seq, p2, e2⟩ := F2
    dsimp only at hR1 hok2
    have HH2 := Lib.hid HF2
    clear HF2
    obtain ⟨wC, hwC⟩ : ∃ wC, wB.setCell ⟨w.heap.size + 1, 4, none⟩ (.int .i64 seq) = wC := ⟨_, rfl⟩
    have hEC : Ext w wC := by rw [← hwC]; exact hEB.setCell (by simp) _
    have hV2C := hV2B.set_other (show w.heap.size ≠ w.heap.size + 1 by omega) 4 (.int .i64 seq)
    have hV4C := hV4B.set 4 (.int .i64 seq)
    rw [hwC] at hV2C hV4C
    have hoRC : OwB wC (.slice A5 row.length c5) row := by rw [← hwC]; exact Ow.set_var hoRB (hfR.ne (by omega)) 4 _
    have hoQC : OwB wC (.slice A9 ql.length c9) ql := by rw [← hwC]; exact Ow.set_var hoQB (hfQ.ne (by omega)) 4 _
    have hcC4 := hV4C.cell
    have hcC2 := hV2C.cell
    have hzC2 := hV2C.frozen
    have hzC4 := hV4C.frozen
    by_cases he2 : e2 ≠ 0 ∨ (l.length : Int) ≤ p2
    case pos =>
      rw [if_pos he2] at hR1
      subst hR1
      obtain ⟨w9, hw9, hV9, hg9⟩ := store7 hV2C rfl (.slice A5 row.length c5) (.int .i64 fam) (.slice A9 ql.length c9) (.int .i64 ts) (.int .i64 seq) (.int .i64 0) (.slice none 0 0)
      have hc9 := hV9.cell
      by_cases he3 : e2 = 0
      case neg =>
        have hb2 : ((e2 : Int) != 0) = true := by simpa using he3
        clear he2 he3 hok2
        go_wp2_with (first | (go_at_call 35; (with_reducible refine HH1.out.mono ?_); rintro e0 w' ⟨rfl, rfl⟩) | (go_at_call 35; (with_reducible refine HH2.out.mono ?_); rintro e0 w' ⟨rfl, rfl⟩))
        exact bodyPost_ret (v := .tuple #[.agg (entCells (.slice A5 row.length c5) (.slice A9 ql.length c9) (.slice none 0 0) ⟨row, fam, ql, ts, seq, 0, []⟩), .bool false]) (by simp [results, Try.results26, go_sem, entCells, hc9]) rfl ⟨_, _, _, _, rfl, ⟨_, _, _, rfl⟩, ⟨_, _, _, rfl⟩, ⟨_, _, _, rfl⟩, hEC.put hg9 hbw⟩
      subst he3
      have hge : (l.length : Int) ≤ p2 := by simpa using he2
      have hk2 := hok2 rfl
      clear he2 hok2
      go_wp2_with (first | (go_at_call 35; (with_reducible refine HH1.out.mono ?_); rintro e0 w' ⟨rfl, rfl⟩) | (go_at_call 35; (with_reducible refine HH2.out.mono ?_); rintro e0 w' ⟨rfl, rfl⟩))
      exact bodyPost_ret (v := .tuple #[.agg (entCells (.slice A5 row.length c5) (.slice A9 ql.length c9) (.slice none 0 0) ⟨row, fam, ql, ts, seq, 0, []⟩), .bool false]) (by simp [results, Try.results26, go_sem, entCells, hc9]) rfl ⟨_, _, _, _, rfl, ⟨_, _, _, rfl⟩, ⟨_, _, _, rfl⟩, ⟨_, _, _, rfl⟩, hEC.put hg9 hbw⟩
    rw [if_neg he2] at hR1
    have he20 : e2 = 0 := Classical.byContradiction fun h => he2 (.inl h)
    have hlt9 : p2 < l.length := by have := fun h => he2 (.inr h); omega
    have hk2 := hok2 he20
    subst he20
    obtain ⟨m, rfl⟩ := Int.eq_ofNat_of_zero_le (show 0 ≤ p2 by omega)
    rw [Int.toNat_natCast] at hR1
    clear he2 hok2
    obtain ⟨ad9, e9, hcm⟩ := (HRd.out.ext hEC).at_ m (by omega)
    cases e9
    have hm0 : (0 : Int) ≤ (m : Int) := Int.natCast_nonneg _
    have hx9 : IntKind.i64.wrap (gt l m) = wrap64 (gt l m) := IntWalk.i64_left _
    have HR2 := Lib.hid hR1
    clear hR1
    generalize wrap64 (gt l m) = kind at *
    obtain ⟨wD, hwD⟩ : ∃ wD, wC.setCell ⟨w.heap.size + 1, 5, none⟩ (.int .i64 kind) = wD := ⟨_, rfl⟩
    have hED : Ext w wD := by rw [← hwD]; exact hEC.setCell (by simp) _
    have hV2D := hV2C.set_other (show w.heap.size ≠ w.heap.size + 1 by omega) 5 (.int .i64 kind)
    have hV4D := hV4C.set 5 (.int .i64 kind)
    rw [hwD] at hV2D hV4D
    have hoRD : OwB wD (.slice A5 row.length c5) row := by rw [← hwD]; exact Ow.set_var hoRC (hfR.ne (by omega)) 5 _
    have hoQD : OwB wD (.slice A9 ql.length c9) ql := by rw [← hwD]; exact Ow.set_var hoQC (hfQ.ne (by omega)) 5 _
    have hcD4 := hV4D.cell
    have hcD2 := hV2D.cell
    have hzD2 := hV2D.frozen
    obtain ⟨w9, hw9, hV9, hg9⟩ := store7 hV2D rfl (.slice A5 row.length c5) (.int .i64 fam) (.slice A9 ql.length c9) (.int .i64 ts) (.int .i64 seq) (.int .i64 kind) (.slice none 0 0)
    have hc9 := hV9.cell
    have hoR9 : OwB w9 (.slice A5 row.length c5) row := Ow.kept hoRD fun k hk => hg9.block k (Ow.lt hoRD k hk) (fun e => by have := hfR k hk; cases e; omega)
    have hoQ9 : OwB w9 (.slice A9 ql.length c9) ql := Ow.kept hoQD fun k hk => hg9.block k (Ow.lt hoQD k hk) (fun e => by have := hfQ k hk; cases e; omega)
    go_wp2_with (first | (go_at_call 35; (with_reducible refine HH1.out.mono ?_); rintro e0 w' ⟨rfl, rfl⟩) | (go_at_call 35; (with_reducible refine HH2.out.mono ?_); rintro e0 w' ⟨rfl, rfl⟩))
    refine bodyPost_ret (v := .tuple #[.agg (entCells (.slice A5 row.length c5) (.slice A9 ql.length c9) (.slice none 0 0) ⟨row, fam, ql, ts, seq, kind, []⟩), .bool true]) (by simp [results, Try.results26, go_sem, entCells, hc9]) rfl ?_
    rw [HR2.out]
    exact ⟨_, _, _, rfl, ⟨hoR9, hoQ9, OwB.nil _, hsep, Sep.nil _ _ _, Sep.nil _ _ _⟩, ⟨hfR.mono (by omega), hfQ.mono (by omega), From.nil _ _ _⟩, hED.put hg9 hbw⟩
end Go.Proofs.Ytckhefkedkipeab

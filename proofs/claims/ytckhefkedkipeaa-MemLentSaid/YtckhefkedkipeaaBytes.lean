/- Bytes in this seat's numbers: what a function that hands out new bytes leaves. No condition. -/
import Derived.Test.YtckhefkedkipeaaLib
import Derived.Test.YtckhefkedkipeaaProg
import Derived.KernelRfl
namespace Go.Proofs.Ytckhefkedkipeaa
open Go.RowKit

theorem infoB : (Try.prog.info? 5).map (fun i => (i.zero, i.size, i.bytes)) = some (some (.int .u8 0), 1, 1) := by kernel_rfl

/-- v reads as these bytes. -/
def RdB (w : World) (v : Value) (l : List Int) : Prop := Rd w v l.length 1 (nums .u8 l)
/-- v owns these bytes. -/
def OwB (w : World) (v : Value) (l : List Int) : Prop := Ow w 5 1 v l.length (nums .u8 l)
theorem RdB.ext {w w' : World} {v : Value} {l : List Int} (h : RdB w v l) (he : Ext w w') : RdB w' v l := Rd.ext h he
theorem RdB.alloc {w : World} {v : Value} {l : List Int} (h : RdB w v l) (o : Obj) : RdB (w.alloc o) v l := Rd.alloc h o
theorem RdB.other {w w' : World} {v : Value} {l : List Int} (h : RdB w v l) {u : Value} (hg : w.grownBy w' u.ownBlock) (hs : Sep v u) : RdB w' v l := Rd.other h hg hs
theorem OwB.ext {w w' : World} {v : Value} {l : List Int} (h : OwB w v l) (he : Ext w w') : OwB w' v l := Ow.ext h he
theorem OwB.alloc {w : World} {v : Value} {l : List Int} (h : OwB w v l) (o : Obj) : OwB (w.alloc o) v l := Ow.alloc h o
theorem OwB.drew {w : World} {v : Value} {l : List Int} (h : OwB w v l) : OwB w.drew v l := Ow.drew h
theorem OwB.drewN {w : World} {v : Value} {l : List Int} (h : OwB w v l) (n : Nat) : OwB (w.drewN n) v l := Ow.drewN h n
theorem OwB.other {w w' : World} {v : Value} {l : List Int} (h : OwB w v l) {u : Value} (hg : w.grownBy w' u.ownBlock) (hs : Sep v u) : OwB w' v l := Ow.other h hg hs
theorem OwB.rd {w : World} {v : Value} {l : List Int} (h : OwB w v l) : RdB w v l := Ow.rd h
theorem OwB.nil (w : World) : OwB w (.slice none 0 0) [] := Ow.nil w _ _
theorem RdB.nil (w : World) : RdB w (.slice none 0 0) [] := Rd.nil w _
theorem RdB.lit (w : World) (l : List Int) : RdB (w.alloc (.cells (nums .u8 l).toArray 5)) (.slice (some ⟨w.heap.size, 0, none⟩) l.length l.length) l := by
  exact Rd.lit w (nums .u8 l).toArray 5 l.length 1 (by simp [nums])

/-- The number at a place of a list. -/
def gt (l : List Int) (i : Nat) : Int := l.getD i 0
theorem RdB.shape {w : World} {v : Value} {l : List Int} (h : RdB w v l) : ∃ A c, v = .slice A l.length c ∧ l.length ≤ c := by
  obtain ⟨_, A, c, hv, hc, _⟩ := h
  exact ⟨A, c, hv, hc⟩
theorem RdB.at_ {w : World} {A : Option Addr} {n c : Nat} {l : List Int} (h : RdB w (.slice A n c) l) (i : Nat) (hi : i < l.length) : ∃ ad, A = some ad ∧ w.cell? (ad.add i) = some (.int .u8 (gt l i)) := by
  obtain ⟨_, A', c', hv, _, hc⟩ := h
  cases hv
  refine hc i _ ?_
  simp [nums, gt, List.getElem?_eq_getElem hi, List.getD_eq_getElem?_getD]
theorem RdB.cell0 {w : World} {ad : Addr} {n c : Nat} {l : List Int} (h : RdB w (.slice (some ad) n c) l) {i : Nat} (hi : i < l.length) : w.cell? (ad.add i) = some (.int .u8 (gt l i)) := by
  obtain ⟨ad', e, hc⟩ := h.at_ i hi
  cases e
  exact hc
theorem take_gt (l : List Int) (k : Nat) (h : k < l.length) : l.take (k + 1) = l.take k ++ [gt l k] := by
  rw [List.take_succ_eq_append_getElem h]; simp [gt, List.getD_eq_getElem?_getD, List.getElem?_eq_getElem h]
theorem drop_gt (l : List Int) (k : Nat) (h : k < l.length) : l.drop k = gt l k :: l.drop (k + 1) := by
  rw [List.drop_eq_getElem_cons h]; simp [gt, List.getD_eq_getElem?_getD, List.getElem?_eq_getElem h]

/-- New bytes are handed out; whatever was there is as it was. -/
def OutB (w : World) (l : List Int) (e : Ending) (w' : World) : Prop :=
  ∃ r, e = .returned r ∧ OwB w' r l ∧ From w.heap.size r ∧ Ext w w'
/-- New bytes and a number. -/
def OutBN (w : World) (x : List Int × Int) (e : Ending) (w' : World) : Prop :=
  ∃ r, e = .returned (.tuple #[r, .int .i64 x.2]) ∧ OwB w' r x.1 ∧ From w.heap.size r ∧ Ext w w'

/-- New bytes, a place and a fault. -/
def OutB3 (w : World) (x : List Int × Int × Int) (e : Ending) (w' : World) : Prop :=
  ∃ r, e = .returned (.tuple #[r, .int .i64 x.2.1, .int .i64 x.2.2]) ∧ OwB w' r x.1 ∧ From w.heap.size r ∧ Ext w w'

/-- append onto bytes that are owned. -/
theorem appB {ops : Array Oper} {rest : List Oper} {o : Oper} {a : Act} {W : World} {Q : Exit → Act → World → Prop}
    (hgd : o.guard = none) (s x : Operand) (ho : o.op = .call { callee := .builtin .append, args := #[s, x], argTypes := #[23, 23] })
    {v y : Value} {l m : List Int} (hs : a.eval s = v) (hx : a.eval x = y) (hown : OwB W v l) (hr : RdB W y m) (hb : l.length + m.length ≤ 140737488355328)
    (h : ∀ v' w', OwB w' v' (l ++ m) → W.grownBy w' v.ownBlock → (v'.ownBlock = v.ownBlock ∨ v'.ownBlock = some W.heap.size) → wpList Try.prog ops Q rest (a.put o.dst v') w') :
    wpList Try.prog ops Q (o :: rest) a W := by
  refine wp_app 23 5 (.int .u8 0) 1 1 Try.underlying23 infoB rfl (by omega) (by omega) hgd s x ho hs hx hown hr (nums_one _ _) (by omega) ?_
  intro v' w' h1 h2 h3
  refine h v' w' ?_ h2 h3
  unfold OwB
  rw [nums_app, List.length_append]
  exact h1

/-- append onto bytes that are owned; where they lie anew whatever was there is there still. -/
theorem appB2 {ops : Array Oper} {rest : List Oper} {o : Oper} {a : Act} {W : World} {Q : Exit → Act → World → Prop}
    (hgd : o.guard = none) (s x : Operand) (ho : o.op = .call { callee := .builtin .append, args := #[s, x], argTypes := #[23, 23] })
    {v y : Value} {l m : List Int} (hs : a.eval s = v) (hx : a.eval x = y) (hown : OwB W v l) (hr : RdB W y m) (hb : l.length + m.length ≤ 140737488355328)
    (h : ∀ v' w', OwB w' v' (l ++ m) → W.grownBy w' v.ownBlock → (v'.ownBlock = v.ownBlock ∨ (v'.ownBlock = some W.heap.size ∧ Ext W w')) → wpList Try.prog ops Q rest (a.put o.dst v') w') :
    wpList Try.prog ops Q (o :: rest) a W := by
  refine wp_app2 23 5 (.int .u8 0) 1 1 Try.underlying23 infoB rfl (by omega) (by omega) hgd s x ho hs hx hown hr (nums_one _ _) (by omega) ?_
  intro v' w' h1 h2 h3
  refine h v' w' ?_ h2 h3
  unfold OwB
  rw [nums_app, List.length_append]
  exact h1

theorem stepB {ops : Array Oper} {o : Oper} {a : Act} {W : World} {K : Act → World → Prop} {Q : Exit → Act → World → Prop} {E : Prop}
    (hgd : o.guard = none) (s x : Operand) (ho : o.op = .call { callee := .builtin .append, args := #[s, x], argTypes := #[23, 23] })
    {v y : Value} {l m : List Int} (hs : a.eval s = v) (hx : a.eval x = y) (hown : OwB W v l) (hr : RdB W y m) (hb : l.length + m.length ≤ 140737488355328)
    (h : ∀ v' w', OwB w' v' (l ++ m) → W.grownBy w' v.ownBlock → (v'.ownBlock = v.ownBlock ∨ v'.ownBlock = some W.heap.size) → K (a.put o.dst v') w') :
    if Region.wanted o (yielded ops a.tmps) = true then Oper.wp Try.prog o a W K Q else E := by
  refine step_app 23 5 (.int .u8 0) 1 1 Try.underlying23 infoB rfl (by omega) (by omega) hgd s x ho hs hx hown hr (nums_one _ _) (by omega) ?_
  intro v' w' h1 h2 h3
  refine h v' w' ?_ h2 h3
  unfold OwB
  rw [nums_app, List.length_append]
  exact h1
/-- make([]byte, l, c). -/
theorem makeB {ops : Array Oper} {rest : List Oper} {o : Oper} {a : Act} {W : World} {Q : Exit → Act → World → Prop}
    (hgd : o.guard = none) (x y : Operand) (ho : o.op = .makeSlice 23 x y) {l c : Int} (hx : a.eval x = .int .i64 l) (hy : a.eval y = .int .i64 c)
    (h0 : 0 ≤ l) (hlc : l ≤ c) (hb : c ≤ 281474976710656)
    (h : ∀ v w1, OwB w1 v (List.replicate l.toNat 0) → From W.heap.size v → Ext W w1 → wpList Try.prog ops Q rest (a.put o.dst v) w1) :
    wpList Try.prog ops Q (o :: rest) a W := by
  refine wp_make 23 5 (.int .u8 0) 1 1 Try.underlying23 infoB (by omega) hgd x y ho hx hy h0 hlc (by omega) ?_
  intro v w1 h1 h2 h3
  refine h v w1 ?_ h2 h3
  have e : (madeCells (Value.cells (.int .u8 0)) (l.toNat * 1)).toList = nums .u8 (List.replicate l.toNat 0) := by
    apply List.ext_getElem
    · simp [nums, madeCells]
    · intro i h1 h2
      simp [nums, madeCells, Value.cells, Nat.mod_one]
  unfold OwB
  rw [List.length_replicate, ← e]
  exact h1
/-- s[lo:hi] of bytes. -/
theorem run_sliceB (W : World) {v : Value} {l : List Int} (hv : RdB W v l) (lo hi : Option Value) (a b : Nat)
    (hlo : lo = none ∧ a = 0 ∨ ∃ k, lo = some (.int k (a : Int))) (hhi : hi = none ∧ b = l.length ∨ ∃ k, hi = some (.int k (b : Int))) (hab : a ≤ b) (hb : b ≤ l.length) (hmax : l.length ≤ 9223372036854775807) :
    ∃ v', (Instr.sliceAt 23 v lo hi none).run Try.prog W = .ok v' W ∧ RdB W v' ((l.take b).drop a) := by
  have hi' : (Try.prog.info? 5).map (·.size) = some 1 := by
    obtain ⟨i, hi, hz⟩ := Option.map_eq_some_iff.1 infoB
    simp only [Prod.mk.injEq] at hz
    rw [hi, Option.map_some, hz.2.1]
  obtain ⟨v', h1, h2⟩ := run_slice_rd (P := Try.prog) W 23 5 1 Try.underlying23 hi' hv lo hi a b hlo hhi hab hb hmax
  refine ⟨v', h1, ?_⟩
  have e : ((nums .u8 l).take (b * 1)).drop (a * 1) = nums .u8 ((l.take b).drop a) := by simp [nums, List.map_take, List.map_drop]
  have e2 : ((l.take b).drop a).length = b - a := by simp; omega
  unfold RdB
  rw [e2, ← e]
  exact h2

/-- Bytes that are owned and not empty: where they lie, that they are there and may be written. -/
theorem OwB.form {w : World} {v : Value} {l : List Int} (h : OwB w v l) (h0 : 0 < l.length) :
    ∃ g cap, v = .slice (some ⟨g, 0, none⟩) l.length cap ∧ l.length ≤ cap ∧ cap ≤ maxLen := by
  obtain ⟨g, cap, hv, h1, h2, _⟩ := Ow.form h h0
  exact ⟨g, cap, hv, h1, h2⟩
theorem OwB.at_ {w : World} {g n cap : Nat} {l : List Int} (h : OwB w (.slice (some ⟨g, 0, none⟩) n cap) l) (j : Nat) (hj : j < l.length) :
    w.cell? ⟨g, j, none⟩ = some (.int .u8 (gt l j)) ∧ w.frozen? ⟨g, j, none⟩ = false := by
  obtain ⟨g', cap', hv, _, _, hc⟩ := Ow.form h (show 0 < l.length by omega)
  cases hv
  exact hc j _ (by simp [nums, gt, List.getElem?_eq_getElem hj, List.getD_eq_getElem?_getD])
theorem OwB.set {w : World} {g cap : Nat} {n : Nat} {l : List Int} (h : OwB w (.slice (some ⟨g, 0, none⟩) n cap) l) (j : Nat) (x : Int) :
    OwB (w.setCell ⟨g, j, none⟩ (.int .u8 x)) (.slice (some ⟨g, 0, none⟩) n cap) (l.set j x) := by
  have hn : l.length = n := by
    obtain ⟨_, A, c, hv, _⟩ := Ow.rd h
    cases hv; rfl
  subst hn
  have := (Ow.set h j (.int .u8 x)).1
  unfold OwB
  have e : nums .u8 (l.set j x) = (nums .u8 l).set j (.int .u8 x) := by simp [nums, List.map_set]
  rw [e, List.length_set]
  exact this
theorem OwB.lit (w : World) (l : List Int) (hl : l.length ≤ 140737488355328) : OwB (w.alloc (.cells (nums .u8 l).toArray 5)) (.slice (some ⟨w.heap.size, 0, none⟩) l.length l.length) l := by
  have h := Ow.lit w (nums .u8 l).toArray 5 l.length 1 (by simp [nums]) (by simp only [maxLen]; omega)
  exact h
theorem run_nilB (W : World) (a : Option Addr) (n c : Nat) : (binOp .eql 23 (.slice a n c) (.slice none 0 0)).run Try.prog W = .ok (.bool a.isNone) W :=
  Lib.run_eql_slice_nil W 23 5 a n c 0 0 Try.underlying23

/-- Bytes as a string. -/
theorem run_strB (W : World) {v : Value} {l : List Int} (hv : RdB W v l) : (convert 23 9 v).run Try.prog W = .ok (.string (strOfNums l)) W := by
  obtain ⟨A, c, rfl, hc⟩ := hv.shape
  rcases A with _ | ad
  · have hl0 : l = [] := by
      cases l with
      | nil => rfl
      | cons a l => obtain ⟨ad, h, _⟩ := hv.at_ 0 (by simp); cases h
    subst hl0
    exact run_convert_bytes_nil W 23 5 Try.underlying23 Try.underlying5 _ _ 9 Try.underlying9
  · obtain ⟨b, off, spot⟩ := ad
    rcases Nat.eq_zero_or_pos l.length with h0 | h0
    · have hl0 : l = [] := List.eq_nil_of_length_eq_zero h0
      subst hl0
      rw [run_convert_bytes_string W _ _ _ _ _ _ Try.underlying23 Try.underlying5 Try.underlying9]
      simp [Conv.bytesToString, loadCells, loadCellsFrom, strOfNums]
      rfl
    · have hsp : spot = none := by
        obtain ⟨ad, e, h⟩ := hv.at_ 0 h0
        cases e
        have h' : W.cell? ⟨b, off, spot⟩ = some (.int .u8 (gt l 0)) := by simpa [Addr.add] using h
        cases spot with
        | none => rfl
        | some s => simp [World.cell?] at h'; split at h' <;> simp at h'
      subst hsp
      refine run_convert_bytes_arg W 23 5 Try.underlying23 Try.underlying5 b off l.length c l rfl (fun i hi => ?_) 9 Try.underlying9
      obtain ⟨ad, e, h⟩ := hv.at_ i hi
      cases e
      rw [addr_add] at h
      exact h

end Go.Proofs.Ytckhefkedkipeaa

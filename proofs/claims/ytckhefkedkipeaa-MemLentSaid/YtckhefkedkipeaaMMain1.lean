/- MemLent: the state between two rounds of its first loop. -/
import Derived.Test.YtckhefkedkipeaaMMain0
namespace Go.Proofs.Ytckhefkedkipeaa
open Go.RowKit
set_option linter.unusedVariables false

theorem notB {w : World} {b T : Nat} {cs : Array Value} (hV : Var w b T cs) {v : Value} {n sz : Nat} {xs : List Value} (h : Rd w v n sz xs) {j : Nat} {u : Value} (hj : xs[j]? = some u) (hu : ∀ o : Nat, cs[o]? ≠ some u) : v.ownBlock ≠ some b := by
  obtain ⟨_, A, c, rfl, _, hc⟩ := h
  obtain ⟨ad, rfl, h2⟩ := hc j u hj
  intro e
  have e2 : ad.block = b := by simpa [Value.ownBlock] using e
  have e3 : (ad.add j).block = b := by unfold Addr.add; split <;> exact e2
  unfold World.cell? at h2
  have hV' : w.heap[(ad.add j).block]? = some (.cells cs T (0, 0)) := by rw [e3]; exact hV
  rw [hV'] at h2
  dsimp only at h2
  split at h2
  · cases h2
  · exact hu _ h2
theorem Rd.keep {w w' : World} {b : Nat} {v : Value} {n sz : Nat} {xs : List Value} (h : Rd w v n sz xs) (hf : Fr (fun k => k = b) w w') (hne : xs ≠ [] → v.ownBlock ≠ some b) : Rd w' v n sz xs := by
  cases xs with
  | nil =>
    obtain ⟨hl, A, c, hv, hn, _⟩ := h
    exact ⟨hl, A, c, hv, hn, by simp⟩
  | cons x xs => exact h.fr hf fun k hk e => hne (by simp) (by rw [hk, e])
/-- A list stays as it is when a table's variable is written. -/
theorem RL.keepT {w w' : World} {b T N : Nat} {v : Value} {is : List Itm} (h : RL w N v is) (hV : Var w b T #[.slice none 0 0, .bool false]) (hf : Fr (fun k => k = b) w w') : RL w' N v is := by
  have hno : ∀ (k : IntKind) (n : Int) (o : Nat), (#[Value.slice none 0 0, Value.bool false] : Array Value)[o]? ≠ some (.int k n) := by
    intro k n o
    match o with
    | 0 => simp
    | 1 => simp
    | o + 2 => simp
  have hb : ∀ {z : Value} {l : List Int}, RdB w z l → RdB w' z l := by
    intro z l hz
    refine Rd.keep hz hf fun hx => ?_
    match l, hz, hx with
    | [], _, hx => simp [nums] at hx
    | x :: l, hz, _ => exact notB hV hz (j := 0) (u := .int .u8 x) (by simp [nums]) (hno _ _)
  refine ⟨Rd.keep h.row hf fun hx => ?_, fun i hi => ⟨hb (h.rd i hi).row, hb (h.rd i hi).qual, hb (h.rd i hi).value⟩, h.frm⟩
  match is, h, hx with
  | [], _, hx => simp [flat] at hx
  | i :: is, h, _ => exact notB hV h.row (j := 1) (u := .int .i64 i.e.fam) (by simp [flat]) (hno _ _)
/-- The state at the head of the first loop. -/
structure L1 (We : World) (N pa pb br : Nat) (i : Nat) (t : Tr) (Lv : Value) (is : List Itm) (wr : World) : Prop where
  ext : Ext We wr
  a : Tab wr N pa t
  b : Tab wr N pb t
  var : Var wr br 30 #[Lv, .bool false]
  rl : RL wr N Lv is
  es : is.map (·.e) = t.list
  srt : Srt t.list
  ok : ∀ e ∈ t.list, checkL e = 0
  eok : ∀ e ∈ t.list, EOk e
  size : t.size ≤ i
  N : N ≤ wr.heap.size
theorem refL_len (e : Ent) (L : List Ent) : (refL e L).length ≤ L.length + 1 := by
  unfold refL
  split
  · exact addL_len e L
  · omega
theorem refL_mem (e : Ent) (L : List Ent) (z : Ent) (h : z ∈ refL e L) : (z = e ∧ checkL e = 0) ∨ z ∈ L := by
  unfold refL at h
  split at h
  · rename_i hc
    exact (addL_mem e L z h).imp (fun h => ⟨h, hc⟩) id
  · exact .inr h
theorem EOk.cut {e : Ent} (h : EOk e) : EOk e.cut := by
  obtain ⟨⟨h1, h2, h3⟩, h4, h5, h6⟩ := h
  have hl : ∀ l : List Int, (l.take 5000).length ≤ 5000 := fun l => by rw [List.length_take]; omega
  have g1 := hl e.row
  have g2 := hl e.qual
  have g3 := hl e.value
  exact ⟨⟨fun n hn => h1 n (List.mem_of_mem_take hn), fun n hn => h2 n (List.mem_of_mem_take hn), fun n hn => h3 n (List.mem_of_mem_take hn)⟩, Nat.le_trans g1 (by omega), Nat.le_trans g2 (by omega), Nat.le_trans g3 (by omega)⟩
theorem L1.isok {We : World} {N pa pb br i : Nat} {t : Tr} {Lv : Value} {is : List Itm} {wr : World} (h : L1 We N pa pb br i t Lv is wr) : ∀ j ∈ is, EOk j.e := fun j hj => h.eok _ (by rw [← h.es]; exact List.mem_map_of_mem hj)
theorem L1.len {We : World} {N pa pb br i : Nat} {t : Tr} {Lv : Value} {is : List Itm} {wr : World} (h : L1 We N pa pb br i t Lv is wr) : is.length = t.size := by
  have := congrArg List.length h.es
  rw [Tr.size_list] at this
  simpa using this
/-- One entry more. -/
theorem L1.next {We w0 w2 w3 w4 w5 : World} {N pa pb br i : Nat} {t : Tr} {Lv v : Value} {is js : List Itm} {ek : Ent} (h : L1 We N pa pb br i t Lv is w0) (hek : EOk ek) (h02 : Ext w0 w2) (hrl : RL w2 N v js) (hes : js.map (·.e) = refL ek.cut (is.map (·.e)))
    (h23 : Ext w2 w3) (h34 : Fr (fun k => k = pa) w3 w4) (ha : Tab w4 N pa (addTr ek t)) (h45 : Fr (fun k => k = pb) w4 w5) (hb : Tab w5 N pb (addTr ek t)) (hab : pa ≠ pb) (hpa : We.heap.size ≤ pa) (hpb : We.heap.size ≤ pb) (hbr : We.heap.size ≤ br) (hN : br < N) (hbra : br ≠ pa) (hbrb : br ≠ pb) :
    L1 We N pa pb br (i + 1) (addTr ek t) v js ((w5.setCell ⟨br, 0, none⟩ v).setCell ⟨br, 1, none⟩ (.bool false)) := by
  obtain ⟨g1, g2, g3⟩ := add_agree ek t h.srt
  rw [h.es] at hes
  have hl : (addTr ek t).size ≤ t.size + 1 := by
    rw [← Tr.size_list, ← Tr.size_list, g2]
    exact refL_len _ _
  have hsz := h.size
  have hpaN := ha.lt
  have hpbN := hb.lt
  have f1 : Fr (fun k => k = br) w5 ((w5.setCell ⟨br, 0, none⟩ v).setCell ⟨br, 1, none⟩ (.bool false)) := (Fr.set _ _ _ _).trans (Fr.set _ _ _ _)
  have e3 : Ext We w3 := (h.ext.trans h02).trans h23
  have e4 : Ext We w4 := Fr.toExt e3 h34 fun k hk => by subst hk; exact hpa
  have e5 : Ext We w5 := Fr.toExt e4 h45 fun k hk => by subst hk; exact hpb
  have e6 := Fr.toExt e5 f1 fun k hk => by subst hk; exact hbr
  have hv5 : Var w5 br 30 #[Lv, .bool false] := ((h.var.ext (h02.trans h23)).fr h34 (by simpa using hbra)).fr h45 (by simpa using hbrb)
  have hv6 := (hv5.set 0 v).set 1 (.bool false)
  refine ⟨e6, ?_, hb.fr f1 (fun b hb => by omega) (by simpa using Ne.symm hbrb), hv6, ?_, hes.trans g2.symm, g3, ?_, ?_, by omega, ?_⟩
  · exact (ha.fr h45 (fun b hb => by omega) (by simpa using hab)).fr f1 (fun b hb => by omega) (by simpa using Ne.symm hbra)
  · exact (((hrl.ext h23).fr h34 (fun b hb => by omega)).fr h45 (fun b hb => by omega)).fr f1 (fun b hb => by omega)
  · intro z hz
    rw [g2] at hz
    rcases refL_mem _ _ _ hz with ⟨rfl, hc⟩ | hz
    · exact hc
    · exact h.ok z hz
  · intro z hz
    rw [g2] at hz
    rcases refL_mem _ _ _ hz with ⟨rfl, hc⟩ | hz
    · exact hek.cut
    · exact h.eok z hz
  · have h1 := h.N
    have h2 := h02.size
    have h3 := h23.size
    have h4 := h34.size
    have h5 := h45.size
    have h6 := f1.size
    omega
end Go.Proofs.Ytckhefkedkipeaa

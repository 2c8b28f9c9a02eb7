/- Entries as values; Go's comparisons of bytes and of numbers. -/
import Derived.Test.YtckhefkedkipeaaWire3
import Derived.Lib.Bytealg
namespace Go.Proofs.Ytckhefkedkipeaa
open Go.RowKit

/-- An entry. -/
structure Ent where
  row : List Int
  fam : Int
  qual : List Int
  ts : Int
  seq : Int
  kind : Int
  value : List Int

def isI64 (n : Int) : Prop := -9223372036854775808 ≤ n ∧ n ≤ 9223372036854775807
/-- Its numbers are of their kind, and its bytes no more than memory bears. -/
structure Ent.Fits (e : Ent) : Prop where
  fam : isI64 e.fam
  ts : isI64 e.ts
  seq : isI64 e.seq
  kind : isI64 e.kind
  row : e.row.length ≤ 140737488351232
  qual : e.qual.length ≤ 140737488351232
  value : e.value.length ≤ 140737488351232

/-- The seven cells of an entry. -/
def entCells (r q x : Value) (e : Ent) : Array Value := #[r, .int .i64 e.fam, q, .int .i64 e.ts, .int .i64 e.seq, .int .i64 e.kind, x]
/-- Its byte strings read as they should. -/
structure RdE (w : World) (r q x : Value) (e : Ent) : Prop where
  row : RdB w r e.row
  qual : RdB w q e.qual
  value : RdB w x e.value
theorem RdE.ext {w w' : World} {r q x : Value} {e : Ent} (h : RdE w r q x e) (he : Ext w w') : RdE w' r q x e := ⟨h.row.ext he, h.qual.ext he, h.value.ext he⟩
theorem RdE.alloc {w : World} {r q x : Value} {e : Ent} (h : RdE w r q x e) (o : Obj) : RdE (w.alloc o) r q x e := h.ext ((Ext.refl _).alloc o)

/-- Its byte strings are owned, each in a block of its own. -/
structure OwE (w : World) (r q x : Value) (e : Ent) : Prop where
  row : OwB w r e.row
  qual : OwB w q e.qual
  value : OwB w x e.value
  rq : Sep r q
  rx : Sep r x
  qx : Sep q x
theorem OwE.rd {w : World} {r q x : Value} {e : Ent} (h : OwE w r q x e) : RdE w r q x e := ⟨h.row.rd, h.qual.rd, h.value.rd⟩
theorem OwE.ext {w w' : World} {r q x : Value} {e : Ent} (h : OwE w r q x e) (he : Ext w w') : OwE w' r q x e := ⟨h.row.ext he, h.qual.ext he, h.value.ext he, h.rq, h.rx, h.qx⟩
def FromE (n : Nat) (r q x : Value) : Prop := From n r ∧ From n q ∧ From n x
theorem FromE.mono {n m : Nat} {r q x : Value} (h : FromE n r q x) (hm : m ≤ n) : FromE m r q x := ⟨h.1.mono hm, h.2.1.mono hm, h.2.2.mono hm⟩
def Ent.zero : Ent := ⟨[], 0, [], 0, 0, 0, []⟩
theorem Sep.nil (v : Value) (n c : Nat) : Sep v (.slice none n c) := by intro k _ h; simp [Value.ownBlock] at h
theorem Sep.nil' (v : Value) (n c : Nat) : Sep (.slice none n c) v := by intro k h; simp [Value.ownBlock] at h
theorem OwE.zero (w : World) : OwE w (.slice none 0 0) (.slice none 0 0) (.slice none 0 0) Ent.zero := ⟨OwB.nil _, OwB.nil _, OwB.nil _, Sep.nil _ _ _, Sep.nil _ _ _, Sep.nil _ _ _⟩
theorem FromE.zero (n : Nat) : FromE n (.slice none 0 0) (.slice none 0 0) (.slice none 0 0) := ⟨From.nil _ _ _, From.nil _ _ _, From.nil _ _ _⟩

theorem loadBytes_run (P : Program) (W : World) (l : List Int) : ∀ (a : Addr) (acc : ByteArray), (∀ j, j < l.length → W.cell? (a.add j) = some (.int .u8 (gt l j))) →
    (Extern.Bytes.loadBytes a l.length acc).run P W = .ok ⟨acc.data ++ (l.map fun n => UInt8.ofNat n.toNat).toArray⟩ W := by
  induction l with
  | nil => intro a acc _; simp [Extern.Bytes.loadBytes]
  | cons c l ih =>
    intro a acc h
    have h0 := h 0 (by simp)
    have ha : a.add 0 = a := by simp [Addr.add]
    rw [ha] at h0
    have e0 : gt (c :: l) 0 = c := rfl
    rw [e0] at h0
    have hs := ih (a.add 1) (acc.push c.toNat.toUInt8) (fun j hj => by
      have := h (j + 1) (by simp; omega)
      have e : (a.add 1).add j = a.add (j + 1) := by
        unfold Addr.add
        by_cases hj0 : j = 0
        · simp [hj0]
        · simp [hj0, Nat.add_assoc, Nat.add_comm 1 j]
      rw [e, this]
      rfl)
    simp only [List.length_cons, Extern.Bytes.loadBytes, Sem.run_bind]
    simp only [Go.load, Sem.run, h0]
    simp only [Result.andThen_ok]
    rw [hs]
    congr 2
    simp [ByteArray.push]

theorem bytesOf_run (W : World) {v : Value} {l : List Int} (hv : RdB W v l) : (Extern.Bytes.bytesOf v).run Try.prog W = .ok (strOfNums l) W := by
  obtain ⟨A, c, rfl, hc⟩ := hv.shape
  rcases A with _ | ad
  · have hl0 : l = [] := by
      cases l with
      | nil => rfl
      | cons a l => obtain ⟨ad, h, _⟩ := hv.at_ 0 (by simp); cases h
    subst hl0
    simp [Extern.Bytes.bytesOf, strOfNums]
    rfl
  · simp only [Extern.Bytes.bytesOf]
    rw [loadBytes_run Try.prog W l ad .empty (fun j hj => by obtain ⟨ad', e, h⟩ := hv.at_ j hj; cases e; exact h)]
    simp [strOfNums, ByteArray.empty, ByteArray.emptyWithCapacity]
    rfl

/-- Bytes compared: -1, 0, 1. -/
def cmpS (l m : List Int) : Int := Lib.compareBytes ((strOfNums l).data.toList) ((strOfNums m).data.toList)
theorem compare_run (W : World) {v u : Value} {l m : List Int} (hv : RdB W v l) (hu : RdB W u m) :
    (callFunc 68 #[v, u]).run Try.prog W = .ok (.value (.int .i64 (cmpS l m))) W := by
  rw [run_callFunc_extern Try.func68 (by kernel_rfl) (by kernel_rfl) (by kernel_rfl) (e := Extern.BytealgCompare.compare) (by kernel_rfl)]
  have h : (Extern.BytealgCompare.compare #[v, u]).run Try.prog W = .ok (.int .i64 (cmpS l m)) W := by
    change Sem.run _ (do pure (goInt (Extern.BytealgCompare.cmp (← Extern.Bytes.bytesOf v) (← Extern.Bytes.bytesOf u)))) W = _
    simp only [Sem.run_bind, bytesOf_run W hv, bytesOf_run W hu, Result.andThen_ok, Sem.run_pure, Lib.cmp_eq]
    rfl
  rw [h]
  rfl

set_option maxHeartbeats 400000 in
theorem bytesCompare_ok (v u : Value) (l m : List Int) (w : World) (hv : RdB w v l) (hu : RdB w u m) :
    Calls Try.prog 50 #[v, u] w fun e w' => e = .returned (.int .i64 (cmpS l m)) ∧ w = w' := by
  have h := compare_run w hv hu
  generalize cmpS l m = c at *
  go_enter Try.func50, Try.ntmps50
  go_wp2
  go_ret
  exact ⟨rfl, rfl⟩

/-- Numbers compared: -1, 0, 1. -/
def cmpN (a b : Int) : Int := if a < b then -1 else if b < a then 1 else 0
set_option maxHeartbeats 400000 in
theorem isNaN_ok (a : Int) (w : World) : Calls Try.prog 69 #[.int .i64 a] w fun e w' => e = .returned (.bool false) ∧ w = w' := by
  go_enter Try.func69, Try.ntmps69
  go_wp2
  go_ret
  exact ⟨by simp, rfl⟩
set_option maxHeartbeats 400000 in
theorem cmpCompare_ok (a b : Int) (w : World) : Calls Try.prog 52 #[.int .i64 a, .int .i64 b] w fun e w' => e = .returned (.int .i64 (cmpN a b)) ∧ w = w' := by
  by_cases h1 : a < b
  · have e : cmpN a b = -1 := if_pos h1
    rw [e]
    go_enter Try.func52, Try.ntmps52
    go_wp2_with (first | (refine (isNaN_ok a _).mono ?_; rintro e w' ⟨rfl, rfl⟩) | (refine (isNaN_ok b _).mono ?_; rintro e w' ⟨rfl, rfl⟩))
    go_ret
    exact ⟨rfl, rfl⟩
  · by_cases h2 : b < a
    · have e : cmpN a b = 1 := by unfold cmpN; rw [if_neg h1, if_pos h2]
      rw [e]
      go_enter Try.func52, Try.ntmps52
      go_wp2_with (first | (refine (isNaN_ok a _).mono ?_; rintro e w' ⟨rfl, rfl⟩) | (refine (isNaN_ok b _).mono ?_; rintro e w' ⟨rfl, rfl⟩))
      go_ret
      exact ⟨rfl, rfl⟩
    · have e : cmpN a b = 0 := by unfold cmpN; rw [if_neg h1, if_neg h2]
      rw [e]
      go_enter Try.func52, Try.ntmps52
      go_wp2_with (first | (refine (isNaN_ok a _).mono ?_; rintro e w' ⟨rfl, rfl⟩) | (refine (isNaN_ok b _).mono ?_; rintro e w' ⟨rfl, rfl⟩))
      go_ret
      exact ⟨rfl, rfl⟩

theorem Ext.put {a b c : World} (h : Ext a b) {k : Nat} (hg : b.grownBy c (some k)) (hk : a.heap.size ≤ k) : Ext a c := Below.grown h hg (Below.size h) fun j hj => by cases hj; exact hk
theorem grownBy_set (w : World) (b i : Nat) (v : Value) : w.grownBy (w.setCell ⟨b, i, none⟩ v) (some b) := ⟨rfl, rfl, rfl, by simp, fun _ _ hk => Below.heap_setCell _ _ _ _ (fun e => hk (by rw [e]))⟩
/-- An entry stored into a variable: the world behind it. -/
theorem store7 {w : World} {b T : Nat} {cs : Array Value} (h : Var w b T cs) (hs : cs.size = 7) (v0 v1 v2 v3 v4 v5 v6 : Value) :
    ∃ w2, (((((((w.setCell ⟨b, 0, none⟩ v0).setCell ⟨b, 1, none⟩ v1).setCell ⟨b, 2, none⟩ v2).setCell ⟨b, 3, none⟩ v3).setCell ⟨b, 4, none⟩ v4).setCell ⟨b, 5, none⟩ v5).setCell ⟨b, 6, none⟩ v6) = w2 ∧
      Var w2 b T #[v0, v1, v2, v3, v4, v5, v6] ∧ w.grownBy w2 (some b) := by
  refine ⟨_, rfl, ?_, ?_⟩
  · have := ((((((h.set 0 v0).set 1 v1).set 2 v2).set 3 v3).set 4 v4).set 5 v5).set 6 v6
    have e : ((((((cs.setIfInBounds 0 v0).setIfInBounds 1 v1).setIfInBounds 2 v2).setIfInBounds 3 v3).setIfInBounds 4 v4).setIfInBounds 5 v5).setIfInBounds 6 v6 = #[v0, v1, v2, v3, v4, v5, v6] := by
      obtain ⟨l⟩ := cs
      rw [List.size_toArray] at hs
      rcases l with _ | ⟨a0, _ | ⟨a1, _ | ⟨a2, _ | ⟨a3, _ | ⟨a4, _ | ⟨a5, _ | ⟨a6, l⟩⟩⟩⟩⟩⟩⟩ <;> simp only [List.length_cons, List.length_nil] at hs <;> first | omega | skip
      have e0 : l = [] := List.eq_nil_of_length_eq_zero (by omega)
      subst e0
      rfl
    rw [e] at this
    exact this
  · exact ((((((grownBy_set w b 0 v0).trans (grownBy_set _ b 1 v1)).trans (grownBy_set _ b 2 v2)).trans (grownBy_set _ b 3 v3)).trans (grownBy_set _ b 4 v4)).trans (grownBy_set _ b 5 v5)).trans (grownBy_set _ b 6 v6)
end Go.Proofs.Ytckhefkedkipeaa

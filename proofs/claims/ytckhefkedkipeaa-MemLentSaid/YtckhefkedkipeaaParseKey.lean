/- Package cell: keys and packed entries, read. -/
import Derived.Test.YtckhefkedkipeaaParse
namespace Go.Proofs.Ytckhefkedkipeaa
open Go.RowKit

theorem wrap64_range (n : Int) : isI64 (wrap64 n) := by unfold isI64 wrap64; omega
theorem readFalling_range (l : List Int) (i : Int) : isI64 (readFallingL l i).1 := by
  unfold readFallingL
  split
  · exact wrap64_range _
  · exact ⟨by simp, by simp⟩
theorem readOrdered_len (l : List Int) (i : Int) : (readOrderedL l i).1.length ≤ l.length := by
  by_cases h : (readOrderedL l i).2.2 = 0
  · unfold readOrderedL at h ⊢
    by_cases ho : outsideL l i = true
    · rw [if_pos ho]; simp
    · rw [if_neg ho] at h ⊢
      have := (rOrd_ok _ _ _ _ (Nat.le_refl _) h).2.2
      simp only [List.length_drop, List.length_nil] at this
      omega
  · have hz : (readOrderedL l i).1 = [] := by
      unfold readOrderedL at h ⊢
      by_cases ho : outsideL l i = true
      · rw [if_pos ho]
      · rw [if_neg ho] at h ⊢
        exact rOrd_bad_nil _ _ _ _ (Nat.le_refl _) h
    rw [hz]; simp
theorem parseTail_fits (l row : List Int) (fam : Int) (qual : List Int) (i : Int) (e : Ent) (h : parseTail l row fam qual i = some e) (hf : isI64 fam) (hr : row.length ≤ 140737488351232) (hq : qual.length ≤ 140737488351232) : e.Fits ∧ e.value = [] := by
  unfold parseTail at h
  split at h
  · cases h
  · split at h
    · cases h
    · cases h
      exact ⟨⟨hf, readFalling_range _ _, readFalling_range _ _, wrap64_range _, hr, hq, by simp⟩, rfl⟩
theorem parse_fits (l : List Int) (e : Ent) (h : parseL l = some e) (hl : l.length ≤ 140737488351232) : e.Fits ∧ e.value = [] := by
  unfold parseL at h
  have h1 := readOrdered_len l 0
  dsimp only at h
  split at h
  · cases h
  · split at h
    · exact parseTail_fits _ _ _ _ _ _ h (wrap64_range _) (by omega) (by simp)
    · split at h
      · cases h
      · have h2 := readOrdered_len l ((readOrderedL l 0).2.1 + 2)
        exact parseTail_fits _ _ _ _ _ _ h (wrap64_range _) (by omega) (by omega)

/-- A new entry and a fault. -/
def OutEN (w : World) (y : Ent × Int) (e : Ending) (w' : World) : Prop :=
  ∃ r q x, e = .returned (.tuple #[.agg (entCells r q x y.1), .int .i64 y.2]) ∧ OwE w' r q x y.1 ∧ FromE w.heap.size r q x ∧ Ext w w'
def parseKeyL (l : List Int) : Ent × Int :=
  match parseL l with
  | none => (Ent.zero, 27)
  | some e => if (keyL e).2 = 0 ∧ eqS (keyL e).1 l = true then (e, 0) else (Ent.zero, 27)

theorem OwE.put {w w2 : World} {r q x : Value} {e : Ent} (h : OwE w r q x e) {b n : Nat} (hf : FromE n r q x) (hg : w.grownBy w2 (some b)) (hb : b < n) : OwE w2 r q x e :=
  ⟨Ow.kept h.row fun k hk => hg.block k (Ow.lt h.row k hk) (fun e => by have := hf.1 k hk; cases e; omega), Ow.kept h.qual fun k hk => hg.block k (Ow.lt h.qual k hk) (fun e => by have := hf.2.1 k hk; cases e; omega),
    Ow.kept h.value fun k hk => hg.block k (Ow.lt h.value k hk) (fun e => by have := hf.2.2 k hk; cases e; omega), h.rq, h.rx, h.qx⟩

end Go.Proofs.Ytckhefkedkipeaa

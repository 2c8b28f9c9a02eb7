/- Package cell: packed entries, read. -/
import Derived.Test.YtckhefkedkipeaaParseKey
namespace Go.Proofs.Ytckhefkedkipeaa
open Go.RowKit

theorem readBytes_len (l : List Int) (i most : Int) : (readBytesL l i most).1.length ≤ l.length := by
  unfold readBytesL
  dsimp only
  repeat' split
  all_goals simp
  omega
def withValue (e : Ent) (v : List Int) : Ent := ⟨e.row, e.fam, e.qual, e.ts, e.seq, e.kind, v⟩
/-- An entry out of packed bytes, the place behind it, the fault. -/
def unpackL (l : List Int) (i : Int) : Ent × Int × Int :=
  let r := readBytesL l i 1048
  if r.2.2 ≠ 0 then (Ent.zero, 0, r.2.2) else
  let p := parseKeyL r.1
  if p.2 ≠ 0 then (Ent.zero, 0, 29) else
  let v := readBytesL l r.2.1 4096
  if v.2.2 ≠ 0 then (Ent.zero, 0, v.2.2) else
  if 0 < v.1.length ∧ p.1.kind ≠ 1 then (Ent.zero, 0, 29) else (withValue p.1 v.1, v.2.1, 0)
/-- A new entry, a place and a fault. -/
def OutEN3 (w : World) (y : Ent × Int × Int) (e : Ending) (w' : World) : Prop :=
  ∃ r q x, e = .returned (.tuple #[.agg (entCells r q x y.1), .int .i64 y.2.1, .int .i64 y.2.2]) ∧ OwE w' r q x y.1 ∧ FromE w.heap.size r q x ∧ Ext w w'

end Go.Proofs.Ytckhefkedkipeaa

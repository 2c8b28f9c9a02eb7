/- What stands while certain blocks may be written; entries that may be. -/
import Derived.Test.YtckhefkedkipeaaLaw
import Derived.Lib.SlBytesConst
namespace Go.Proofs.Ytckhefkedkipeaa
open Go.RowKit

/-- Whatever was there is there still, but for the blocks of S. -/
structure Fr (S : Nat → Prop) (w w' : World) : Prop where
  os : w'.os = w.os
  tape : w'.tape = w.tape
  output : w'.output = w.output
  size : w.heap.size ≤ w'.heap.size
  block : ∀ k, k < w.heap.size → ¬ S k → w'.heap[k]? = w.heap[k]?
theorem Fr.ext {w w' : World} (h : Ext w w') (S : Nat → Prop) : Fr S w w' := ⟨h.os, h.tape, h.output, h.size, fun _ hk _ => h.block hk⟩
theorem Fr.grown {w w' : World} {r : Option Nat} (h : w.grownBy w' r) {S : Nat → Prop} (hS : ∀ k, r = some k → S k) : Fr S w w' :=
  ⟨h.os, h.tape, h.output, h.size, fun k hk hn => h.block k hk fun e => hn (hS k e.symm)⟩
theorem Fr.trans {S : Nat → Prop} {a b c : World} (h : Fr S a b) (k : Fr S b c) : Fr S a c :=
  ⟨k.os.trans h.os, k.tape.trans h.tape, k.output.trans h.output, Nat.le_trans h.size k.size, fun i hi hn => (k.block i (Nat.lt_of_lt_of_le hi h.size) hn).trans (h.block i hi hn)⟩
theorem Fr.mono {S T : Nat → Prop} {a b : World} (h : Fr S a b) (hST : ∀ k, k < a.heap.size → S k → T k) : Fr T a b :=
  ⟨h.os, h.tape, h.output, h.size, fun i hi hn => h.block i hi fun hs => hn (hST i hi hs)⟩
theorem Fr.toExt {S : Nat → Prop} {a b c : World} (h : Ext a b) (k : Fr S b c) (hS : ∀ i, S i → a.heap.size ≤ i) : Ext a c :=
  ⟨k.os.trans h.os, k.tape.trans h.tape, k.output.trans h.output, Nat.le_trans h.size k.size, fun i hi => (k.block i (Nat.lt_of_lt_of_le hi h.size) fun hs => by have := hS i hs; omega).trans (h.block hi)⟩
/-- A value that lies in none of these blocks. -/
def Off (S : Nat → Prop) (v : Value) : Prop := ∀ k, v.ownBlock = some k → ¬ S k
theorem Off.nil (S : Nat → Prop) (n c : Nat) : Off S (.slice none n c) := by intro k h; simp [Value.ownBlock] at h
theorem Rd.fr {S : Nat → Prop} {w w' : World} {v : Value} {n sz : Nat} {xs : List Value} (h : Rd w v n sz xs) (hf : Fr S w w') (ho : Off S v) : Rd w' v n sz xs := by
  obtain ⟨hl, A, c, rfl, hn, hcells⟩ := h
  refine ⟨hl, A, c, rfl, hn, fun j u hu => ?_⟩
  obtain ⟨ad, rfl, h2⟩ := hcells j u hu
  refine ⟨ad, rfl, ?_⟩
  have hb : (ad.add j).block = ad.block := by unfold Addr.add; split <;> rfl
  have hlt := World.block_lt_of_cell? w _ h2
  rw [← h2]
  exact World.cell?_of_block (hf.block _ hlt (by rw [hb]; exact ho _ rfl))
theorem Ow.fr {S : Nat → Prop} {w w' : World} {T sz : Nat} {v : Value} {n : Nat} {xs : List Value} (h : Ow w T sz v n xs) (hf : Fr S w w') (ho : Off S v) : Ow w' T sz v n xs :=
  h.kept fun k hk => hf.block k (h.lt k hk) (ho k hk)
theorem Var.fr {S : Nat → Prop} {w w' : World} {b T : Nat} {cs : Array Value} (h : Var w b T cs) (hf : Fr S w w') (hS : ¬ S b) : Var w' b T cs := (hf.block b h.lt hS).trans h
theorem RdB.fr {S : Nat → Prop} {w w' : World} {v : Value} {l : List Int} (h : RdB w v l) (hf : Fr S w w') (ho : Off S v) : RdB w' v l := Rd.fr h hf ho
theorem OwB.fr {S : Nat → Prop} {w w' : World} {v : Value} {l : List Int} (h : OwB w v l) (hf : Fr S w w') (ho : Off S v) : OwB w' v l := Ow.fr h hf ho

def plainE : Ent := ⟨[114], 1, [113], 5, 32, 1, [118]⟩
theorem k1 : (keyL plainE).2 = 0 := by kernel_rfl
theorem k2 : (parseKeyL (keyL plainE).1).2 = 0 := by kernel_rfl
theorem k3 : (parseKeyL (keyL plainE).1).1.ts = 5 := by kernel_rfl
theorem k4 : keyL { plainE with ts := 0 } = ([], 23) := by kernel_rfl
theorem k5 : compareL plainE { plainE with ts := 0 } = -1 := by kernel_rfl
theorem k6 : checkL { plainE with ts := 0, seq := -1 } = 23 := by kernel_rfl
theorem k7 : (keyL plainE).1.length = 26 := by kernel_rfl
/-- An entry that can be read. -/
def OutR (w : World) (y : Ent) (e : Ending) (w' : World) : Prop :=
  ∃ r q x, e = .returned (.agg (entCells r q x y)) ∧ RdE w' r q x y ∧ FromE w.heap.size r q x ∧ Ext w w'
/-- A constant's bytes: the worlds that lay them. -/
theorem lay_const (w : World) (n : Int) : ∃ W1 W2, w.alloc (.cells #[.int .u8 n] 5) = W1 ∧ (convert 23 23 (.slice (some ⟨w.heap.size, 0, none⟩) 1 1)).run Try.prog W1 = .ok (.slice (some ⟨w.heap.size, 0, none⟩) 1 1) W2 ∧
    RdB W2 (.slice (some ⟨w.heap.size, 0, none⟩) 1 1) [n] ∧ Ext w W2 := by
  refine ⟨_, w.alloc (.cells #[.int .u8 n] 5 (1, 2)), rfl, Lib.run_convert_bytes_const w _ _ #[.int .u8 n] 1 1 Try.underlying23 Try.underlying5, ?_, (Ext.refl _).alloc _⟩
  refine ⟨by simp [nums], _, _, rfl, by simp, fun j u hu => ⟨_, rfl, ?_⟩⟩
  have hj : j = 0 := by
    have := (List.getElem?_eq_some_iff.1 hu).1
    simpa [nums] using this
  subst hj
  simp only [nums, List.map_cons, List.map_nil, List.getElem?_cons_zero, Option.some.injEq] at hu
  subst hu
  rw [addr_add]
  exact World.cell?_alloc_mark w #[.int .u8 n] _ _ 0
end Go.Proofs.Ytckhefkedkipeaa

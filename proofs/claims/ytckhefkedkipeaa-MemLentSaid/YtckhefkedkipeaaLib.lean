/- A small library for the proofs of this seat: what a slice reads as, what a call owns, and how both stand in later worlds. No condition. -/
import Derived.WalkKit
import Derived.WalkSpells
import Derived.Maps.AppendAt
import Derived.Lib.Hide
import Derived.Deep.QuietTactic
import Derived.BigQuiet
import Derived.Deep.RegionHeld3
namespace Go.Proofs.Ytckhefkedkipeaa
open Go.RowKit

/-- Whole numbers of one kind as values. -/
def nums (k : IntKind) (l : List Int) : List Value := l.map (Value.int k)
theorem nums_len (k : IntKind) (l : List Int) : (nums k l).length = l.length := by simp [nums]
theorem nums_app (k : IntKind) (l m : List Int) : nums k (l ++ m) = nums k l ++ nums k m := by simp [nums]
theorem nums_one (k : IntKind) (l : List Int) : ∀ u ∈ nums k l, u.oneCell' = true := by
  intro u hu; simp only [nums, List.mem_map] at hu; obtain ⟨x, _, rfl⟩ := hu; rfl

/-- Whatever was there is there still. -/
def Ext (w w' : World) : Prop := Below w.heap.size w w'
theorem Ext.refl (w : World) : Ext w w := Below.refl _ _
theorem Ext.size {a b : World} (h : Ext a b) : a.heap.size ≤ b.heap.size := Below.size h
theorem Ext.trans {a b c : World} (h : Ext a b) (k : Ext b c) : Ext a c := Below.trans h (Below.mono k (Below.size h))
theorem Ext.alloc {a b : World} (h : Ext a b) (o : Obj) : Ext a (b.alloc o) := Below.alloc h (Below.size h) o
theorem Ext.drew {a b : World} (h : Ext a b) : Ext a b.drew := Below.drew h
theorem Ext.drewN {a b : World} (h : Ext a b) (n : Nat) : Ext a (b.drewN n) := ⟨h.os, h.tape, h.output, h.size, h.block⟩
theorem Ext.setCell {a b : World} (h : Ext a b) {p : Addr} (hp : a.heap.size ≤ p.block) (u : Value) : Ext a (b.setCell p u) := Below.setCell h hp u
theorem Ext.block {a b : World} (h : Ext a b) {k : Nat} (hk : k < a.heap.size) : b.heap[k]? = a.heap[k]? := Below.block h k hk
theorem Ext.cell {a b : World} (h : Ext a b) {p : Addr} {v : Value} (hc : a.cell? p = some v) : b.cell? p = some v :=
  (Below.cell h (World.block_lt_of_cell? a p hc)).trans hc
theorem Ext.cells {a b : World} (h : Ext a b) : ∀ k o, k < a.heap.size → b.cell? ⟨k, o, none⟩ = a.cell? ⟨k, o, none⟩ := fun k o hk => Below.cell (p := ⟨k, o, none⟩) h hk
theorem Ext.frozens {a b : World} (h : Ext a b) : ∀ k o, k < a.heap.size → b.frozen? ⟨k, o, none⟩ = a.frozen? ⟨k, o, none⟩ := fun k o hk => Below.frozen (p := ⟨k, o, none⟩) h hk
theorem Ext.obj {a b : World} (h : Ext a b) {k : Nat} {o : Obj} (hc : a.heap[k]? = some o) : b.heap[k]? = some o :=
  (h.block (Array.getElem?_eq_some_iff.1 hc).1).trans hc

/-- The slice value v, of n elements of sz cells each, reads as the cells xs. -/
def Rd (w : World) (v : Value) (n sz : Nat) (xs : List Value) : Prop :=
  xs.length = n * sz ∧ ∃ A c, v = .slice A n c ∧ n ≤ c ∧ ∀ j u, xs[j]? = some u → ∃ ad, A = some ad ∧ w.cell? (ad.add j) = some u
theorem Rd.later {w w' : World} {v : Value} {n sz : Nat} {xs : List Value} (h : Rd w v n sz xs) (hc : ∀ a u, w.cell? a = some u → w'.cell? a = some u) : Rd w' v n sz xs := by
  obtain ⟨hl, A, c, hv, hn, hcells⟩ := h
  exact ⟨hl, A, c, hv, hn, fun j u hu => let ⟨ad, h1, h2⟩ := hcells j u hu; ⟨ad, h1, hc _ _ h2⟩⟩
theorem Rd.ext {w w' : World} {v : Value} {n sz : Nat} {xs : List Value} (h : Rd w v n sz xs) (he : Ext w w') : Rd w' v n sz xs := h.later fun _ _ hc => he.cell hc
theorem Rd.alloc {w : World} {v : Value} {n sz : Nat} {xs : List Value} (h : Rd w v n sz xs) (o : Obj) : Rd (w.alloc o) v n sz xs := h.ext ((Ext.refl _).alloc o)
theorem Rd.drew {w : World} {v : Value} {n sz : Nat} {xs : List Value} (h : Rd w v n sz xs) : Rd w.drew v n sz xs := h.ext (Ext.refl _).drew
theorem Rd.drewN {w : World} {v : Value} {n sz : Nat} {xs : List Value} (h : Rd w v n sz xs) (k : Nat) : Rd (w.drewN k) v n sz xs := h.ext ((Ext.refl _).drewN k)
theorem Rd.nil (w : World) (sz : Nat) : Rd w (.slice none 0 0) 0 sz [] := ⟨by simp, none, 0, rfl, Nat.le_refl _, by simp⟩
/-- A fresh literal row. -/
theorem Rd.lit (w : World) (cs : Array Value) (T n sz : Nat) (h : cs.size = n * sz) : Rd (w.alloc (.cells cs T)) (.slice (some ⟨w.heap.size, 0, none⟩) n n) n sz cs.toList := by
  refine ⟨by simpa using h, _, _, rfl, Nat.le_refl _, fun j u hu => ⟨_, rfl, ?_⟩⟩
  have hadd : (⟨w.heap.size, 0, none⟩ : Addr).add j = ⟨w.heap.size, j, none⟩ := by unfold Addr.add; split <;> simp_all
  rw [hadd]
  simpa using hu

/-- The block it lies in, if any, is one from lo on. -/
def From (lo : Nat) (v : Value) : Prop := ∀ k, v.ownBlock = some k → lo ≤ k
theorem From.nil (lo n c : Nat) : From lo (.slice none n c) := by intro k h; simp [Value.ownBlock] at h
theorem From.mono {lo lo' : Nat} {v : Value} (h : From lo v) (h1 : lo' ≤ lo) : From lo' v := fun k hk => by have := h k hk; omega
theorem From.new (lo k o n c : Nat) (h : lo ≤ k) : From lo (.slice (some ⟨k, o, none⟩) n c) := by intro j hj; simp [Value.ownBlock] at hj; omega
/-- Where an append's answer lies. -/
theorem From.app {lo : Nat} {W : World} {v v' : Value} (h : From lo v) (hat : v'.ownBlock = v.ownBlock ∨ v'.ownBlock = some W.heap.size) (hs : lo ≤ W.heap.size) : From lo v' := by
  intro k hk
  rcases hat with e | e
  · rw [e] at hk; exact h k hk
  · rw [e] at hk; cases hk; exact hs
/-- Two slices lie in two blocks. -/
def Sep (v u : Value) : Prop := ∀ k, v.ownBlock = some k → u.ownBlock ≠ some k
theorem Sep.symm {v u : Value} (h : Sep v u) : Sep u v := fun k hk hv => h k hv hk
/-- The slice value v owns the row that it begins, of type T, and reads as the cells xs. -/
def Ow (w : World) (T sz : Nat) (v : Value) (n : Nat) (xs : List Value) : Prop :=
  xs.length = n * sz ∧ ((v = .slice none 0 0 ∧ n = 0) ∨
   ∃ g cap cur, v = .slice (some ⟨g, 0, none⟩) n cap ∧ w.heap[g]? = some (.cells cur T (0, 0)) ∧ n ≤ cap ∧ cap ≤ maxLen ∧ cap * sz ≤ cur.size ∧ cur.toList.take (n * sz) = xs)
theorem Ow.nil (w : World) (T sz : Nat) : Ow w T sz (.slice none 0 0) 0 [] := ⟨by simp, .inl ⟨rfl, rfl⟩⟩
theorem Ow.lt {w : World} {T sz : Nat} {v : Value} {n : Nat} {xs : List Value} (h : Ow w T sz v n xs) : ∀ k, v.ownBlock = some k → k < w.heap.size := by
  intro k hk
  rcases h.2 with ⟨rfl, _⟩ | ⟨g, cap, cur, rfl, hg, _⟩
  · simp [Value.ownBlock] at hk
  · simp [Value.ownBlock] at hk; subst hk; exact (Array.getElem?_eq_some_iff.1 hg).1
theorem Ow.kept {w w' : World} {T sz : Nat} {v : Value} {n : Nat} {xs : List Value} (h : Ow w T sz v n xs) (hb : ∀ k, v.ownBlock = some k → w'.heap[k]? = w.heap[k]?) : Ow w' T sz v n xs := by
  refine ⟨h.1, ?_⟩
  rcases h.2 with hn | ⟨g, cap, cur, rfl, hg, rest⟩
  · exact .inl hn
  · exact .inr ⟨g, cap, cur, rfl, (hb g (by simp [Value.ownBlock])).trans hg, rest⟩
theorem Ow.ext {w w' : World} {T sz : Nat} {v : Value} {n : Nat} {xs : List Value} (h : Ow w T sz v n xs) (he : Ext w w') : Ow w' T sz v n xs :=
  h.kept fun k hk => he.block (h.lt k hk)
theorem Ow.alloc {w : World} {T sz : Nat} {v : Value} {n : Nat} {xs : List Value} (h : Ow w T sz v n xs) (o : Obj) : Ow (w.alloc o) T sz v n xs := h.ext ((Ext.refl _).alloc o)
theorem Ow.drew {w : World} {T sz : Nat} {v : Value} {n : Nat} {xs : List Value} (h : Ow w T sz v n xs) : Ow w.drew T sz v n xs := h.ext (Ext.refl _).drew
theorem Ow.drewN {w : World} {T sz : Nat} {v : Value} {n : Nat} {xs : List Value} (h : Ow w T sz v n xs) (k : Nat) : Ow (w.drewN k) T sz v n xs := h.ext ((Ext.refl _).drewN k)
theorem Ow.other {w w' : World} {T sz : Nat} {v : Value} {n : Nat} {xs : List Value} (h : Ow w T sz v n xs) {u : Value} (hg : w.grownBy w' u.ownBlock) (hs : Sep v u) : Ow w' T sz v n xs :=
  h.kept fun k hk => hg.block k (h.lt k hk) fun e => hs k hk e.symm
theorem Ow.rd {w : World} {T sz : Nat} {v : Value} {n : Nat} {xs : List Value} (h : Ow w T sz v n xs) : Rd w v n sz xs := by
  obtain ⟨hl, h2⟩ := h
  rcases h2 with ⟨rfl, rfl⟩ | ⟨g, cap, cur, rfl, hg, hn, _, _, ht⟩
  · have : xs = [] := List.eq_nil_of_length_eq_zero (by simpa using hl)
    subst this; exact Rd.nil w sz
  · refine ⟨hl, _, _, rfl, hn, fun j u hu => ⟨_, rfl, ?_⟩⟩
    have hadd : (⟨g, 0, none⟩ : Addr).add j = ⟨g, j, none⟩ := by unfold Addr.add; split <;> simp_all
    rw [hadd, cell_of_row w g j cur T (0, 0) hg]
    rw [← ht, List.getElem?_take] at hu
    split at hu
    · simpa using hu
    · cases hu
theorem Ow.sep {w : World} {T sz : Nat} {v : Value} {n : Nat} {xs : List Value} (h : Ow w T sz v n xs) {u : Value} (hu : From w.heap.size u) : Sep v u :=
  fun k hk hk' => by have := h.lt k hk; have := hu k hk'; omega
/-- What reads elsewhere reads on while an owned row is written. -/
theorem Rd.other {w w' : World} {v : Value} {n sz : Nat} {xs : List Value} (h : Rd w v n sz xs) {u : Value} (hg : w.grownBy w' u.ownBlock) (hs : Sep v u) : Rd w' v n sz xs := by
  obtain ⟨hl, A, c, rfl, hn, hcells⟩ := h
  refine ⟨hl, A, c, rfl, hn, fun j x hx => ?_⟩
  obtain ⟨ad, rfl, h2⟩ := hcells j x hx
  refine ⟨ad, rfl, ?_⟩
  have hb : (ad.add j).block = ad.block := by unfold Addr.add; split <;> rfl
  exact hg.cell h2 fun e => hs ad.block rfl (by rw [← e, hb])
theorem Ext.grown {a b c : World} (h : Ext a b) {v : Value} (hg : b.grownBy c v.ownBlock) (hin : From a.heap.size v) : Ext a c :=
  Below.grown h hg (Below.size h) fun k hk => hin k hk
theorem grown_ext {w w1 : World} (h : Ext w w1) (row : Option Nat) : w.grownBy w1 row := ⟨h.os, h.tape, h.output, h.size, fun _ hi _ => h.block hi⟩

/-- append, run: onto what is owned, of what can be read. -/
theorem run_app2 {P : Program} (W : World) (t ty e : TypeId) (z : Value) (sz bytes : Nat) (ht : P.underlying t = some (.slice e))
    (hinfo : (P.info? e).map (fun i => (i.zero, i.size, i.bytes)) = some (some z, sz, bytes)) (hzs : z.cells.size = sz) (hsz : 0 < sz)
    (v y : Value) (n m : Nat) (xs ys : List Value) (ho : Ow W e sz v n xs) (hr : Rd W y m sz ys) (h1 : ∀ u ∈ ys, u.oneCell' = true)
    (hb : (n + m) * bytes ≤ 140737488355328) (hb0 : 0 < bytes) :
    ∃ v' w', (Builtin.append_ #[t, t] ty #[v, y]).run P W = .ok v' w' ∧ Ow w' e sz v' (n + m) (xs ++ ys) ∧ W.grownBy w' v.ownBlock ∧ (v'.ownBlock = v.ownBlock ∨ (v'.ownBlock = some W.heap.size ∧ Ext W w')) := by
  obtain ⟨i, hi, hzz⟩ := Option.map_eq_some_iff.1 hinfo
  simp only [Prod.mk.injEq] at hzz
  obtain ⟨hz, rfl, rfl⟩ := hzz
  have hnm : n + m ≤ 140737488355328 := Nat.le_trans (Nat.le_mul_of_pos_right _ hb0) hb
  obtain ⟨hly, A, c, rfl, hmc, hcells⟩ := hr
  have hlen : (xs ++ ys).length = (n + m) * i.size := by rw [List.length_append, ho.1, hly, Nat.add_mul]
  have hmax : n + m ≤ maxLen := by simp only [maxLen]; omega
  by_cases hm0 : m = 0
  · subst hm0
    have hys : ys = [] := List.eq_nil_of_length_eq_zero (by simpa using hly)
    subst hys
    refine ⟨v, W, ?_, by simpa using ho, World.grownBy.refl W _, .inl rfl⟩
    rcases ho.2 with ⟨rfl, rfl⟩ | ⟨g, cap, cur, rfl, hg, hn, _⟩
    · cases A <;> simp [Builtin.append_, run_underlying ht, sizeOf, typeInfo, hi, Builtin.lenOf, Builtin.firstCells, loadCells, loadCellsFrom]
    · cases A <;> simp [Builtin.append_, run_underlying ht, sizeOf, typeInfo, hi, Builtin.lenOf, Builtin.firstCells, hn, loadCells, loadCellsFrom, storeCells]
  · have hpos : 0 < ys.length := by rw [hly]; exact Nat.mul_pos (by omega) hsz
    obtain ⟨ad, rfl, _⟩ := hcells 0 _ (List.getElem?_eq_getElem hpos)
    have hnews : ∀ j u, ys[j]? = some u → W.cell? (ad.add j) = some u := fun j u hu => by
      obtain ⟨ad', e', h⟩ := hcells j u hu; cases e'; exact h
    have grown : ∀ (old : Nat), old < n + m → ∀ (row : Option Nat),
        Ow (W.drew.alloc (.cells (xs.toArray ++ ys.toArray ++ Builtin.zeroCells z.cells (grownCap W (n + m) old e - (n + m))) e)) e i.size
          (.slice (some ⟨W.heap.size, 0, none⟩) (n + m) (grownCap W (n + m) old e)) (n + m) (xs ++ ys) ∧
        W.grownBy (W.drew.alloc (.cells (xs.toArray ++ ys.toArray ++ Builtin.zeroCells z.cells (grownCap W (n + m) old e - (n + m))) e)) row := by
      intro old hlt row
      have hge := grownCap_ge W (n + m) old e
      have hcm : grownCap W (n + m) old e ≤ maxLen := grownCap_le_maxLen W (n + m) old e hmax
      refine ⟨⟨hlen, .inr ⟨W.heap.size, _, _, rfl, heap_alloc_new W.drew _, hge, hcm, ?_, ?_⟩⟩, ⟨rfl, rfl, rfl, by simp, fun k hk _ => Below.heap_alloc _ _ k (by simpa using hk)⟩⟩
      · simp only [Array.size_append, List.size_toArray, size_zeroCells, hzs, ho.1, hly, ← Nat.add_mul]
        exact Nat.mul_le_mul_right _ (by omega)
      · simp only [Array.toList_append, List.append_assoc]
        rw [← List.append_assoc, ← hlen]
        exact List.take_left
    rcases ho.2 with ⟨rfl, rfl⟩ | ⟨g, cap, cur, rfl, hg, hnc, hcm, hcs, htake⟩
    · have hx : xs = [] := List.eq_nil_of_length_eq_zero (by simpa using ho.1)
      subst hx
      have hr := run_append_nil (P := P) W t ty e i z ht hi hz ad m c ys hly hnews (by omega) (by omega) (by simp only [Nat.zero_add] at hb; omega)
      have hgr := grown 0 (by omega) (Value.ownBlock (.slice none 0 0))
      simp only [Nat.zero_add, List.nil_append, Array.empty_append] at hgr ⊢
      exact ⟨_, _, hr, hgr.1, hgr.2, .inr ⟨rfl, ((Ext.refl W).drew).alloc _⟩⟩
    · by_cases hroom : n + m ≤ cap
      · have hfit : n * i.size + ys.length ≤ cur.size := by rw [hly, ← Nat.add_mul]; exact Nat.le_trans (Nat.mul_le_mul_right _ hroom) hcs
        have hr := run_append_room (P := P) W t ty e i ht hi g n cap cur hg ad m c ys hly hnews h1 hroom hfit
        refine ⟨_, _, hr, ⟨hlen, .inr ⟨g, cap, _, rfl, setRow_heap W g cur _ e _ hg, hroom, hcm, ?_, ?_⟩⟩, ⟨rfl, rfl, rfl, by simp, fun k _ hk => setRow_other W g k _ (fun e => hk (by simp [Value.ownBlock, e]))⟩, .inl rfl⟩
        · simp only [List.size_toArray, List.length_append, List.length_take, List.length_drop, Array.length_toList]
          omega
        · rw [htake, ← hlen]
          exact List.take_left
      · have holds : ∀ j u, xs[j]? = some u → W.cell? ((⟨g, 0, none⟩ : Addr).add j) = some u := fun j u hu => by
          obtain ⟨_, A', c', e', _, h'⟩ := ho.rd
          cases e'
          obtain ⟨ad', e', h⟩ := h' j u hu; cases e'; exact h
        have hr := run_append_grow (P := P) W t ty e i z ht hi hz ⟨g, 0, none⟩ n cap xs ho.1 holds ad m c ys hly hnews (by omega) (by omega) (growslice_fits (by omega) hb)
        have hgr := grown cap (by omega) (Value.ownBlock (.slice (some ⟨g, 0, none⟩) n cap))
        exact ⟨_, _, hr, hgr.1, hgr.2, .inr ⟨rfl, ((Ext.refl W).drew).alloc _⟩⟩

/-- append, run: onto what is owned, of what can be read. -/
theorem run_app {P : Program} (W : World) (t ty e : TypeId) (z : Value) (sz bytes : Nat) (ht : P.underlying t = some (.slice e))
    (hinfo : (P.info? e).map (fun i => (i.zero, i.size, i.bytes)) = some (some z, sz, bytes)) (hzs : z.cells.size = sz) (hsz : 0 < sz)
    (v y : Value) (n m : Nat) (xs ys : List Value) (ho : Ow W e sz v n xs) (hr : Rd W y m sz ys) (h1 : ∀ u ∈ ys, u.oneCell' = true)
    (hb : (n + m) * bytes ≤ 140737488355328) (hb0 : 0 < bytes) :
    ∃ v' w', (Builtin.append_ #[t, t] ty #[v, y]).run P W = .ok v' w' ∧ Ow w' e sz v' (n + m) (xs ++ ys) ∧ W.grownBy w' v.ownBlock ∧ (v'.ownBlock = v.ownBlock ∨ v'.ownBlock = some W.heap.size) := by
  obtain ⟨v', w', h1, h2, h3, h4⟩ := run_app2 W t ty e z sz bytes ht hinfo hzs hsz v y n m xs ys ho hr h1 hb hb0
  exact ⟨v', w', h1, h2, h3, h4.imp_right And.left⟩

/-- append, one operation. -/
theorem op_app {P : Program} {o : Oper} {a : Act} {W : World} {K : Act → World → Prop} {Q : Exit → Act → World → Prop} (t e : TypeId) (z : Value) (sz bytes : Nat) (ht : P.underlying t = some (.slice e))
    (hinfo : (P.info? e).map (fun i => (i.zero, i.size, i.bytes)) = some (some z, sz, bytes)) (hzs : z.cells.size = sz) (hsz : 0 < sz) (hb0 : 0 < bytes)
    (s x : Operand) (ho : o.op = .call { callee := .builtin .append, args := #[s, x], argTypes := #[t, t] })
    {v y : Value} {n m : Nat} {xs ys : List Value} (hs : a.eval s = v) (hx : a.eval x = y) (hown : Ow W e sz v n xs) (hr : Rd W y m sz ys) (h1 : ∀ u ∈ ys, u.oneCell' = true)
    (hb : (n + m) * bytes ≤ 140737488355328)
    (h : ∀ v' w', Ow w' e sz v' (n + m) (xs ++ ys) → W.grownBy w' v.ownBlock → (v'.ownBlock = v.ownBlock ∨ v'.ownBlock = some W.heap.size) → K (a.put o.dst v') w') :
    o.wp P a W K Q := by
  obtain ⟨v', w', hrun, h2, h3, h4⟩ := run_app (P := P) W t o.type e z sz bytes ht hinfo hzs hsz v y n m xs ys hown hr h1 hb hb0
  unfold Oper.wp execOp
  simp only [ho, resolve, invoke, builtin, Sem.run_bind, Sem.run_pure, Result.andThen_ok, List.map_toArray, List.map_cons, List.map_nil, hs, hx, hrun]
  exact h v' w' h2 h3 h4
/-- append, as a step of a walk. -/
theorem wp_app {P : Program} {ops : Array Oper} {rest : List Oper} {o : Oper} {a : Act} {W : World} {Q : Exit → Act → World → Prop} (t e : TypeId) (z : Value) (sz bytes : Nat) (ht : P.underlying t = some (.slice e))
    (hinfo : (P.info? e).map (fun i => (i.zero, i.size, i.bytes)) = some (some z, sz, bytes)) (hzs : z.cells.size = sz) (hsz : 0 < sz) (hb0 : 0 < bytes)
    (hgd : o.guard = none) (s x : Operand) (ho : o.op = .call { callee := .builtin .append, args := #[s, x], argTypes := #[t, t] })
    {v y : Value} {n m : Nat} {xs ys : List Value} (hs : a.eval s = v) (hx : a.eval x = y) (hown : Ow W e sz v n xs) (hr : Rd W y m sz ys) (h1 : ∀ u ∈ ys, u.oneCell' = true)
    (hb : (n + m) * bytes ≤ 140737488355328)
    (h : ∀ v' w', Ow w' e sz v' (n + m) (xs ++ ys) → W.grownBy w' v.ownBlock → (v'.ownBlock = v.ownBlock ∨ v'.ownBlock = some W.heap.size) → wpList P ops Q rest (a.put o.dst v') w') :
    wpList P ops Q (o :: rest) a W :=
  wpList_plain hgd fun _ hK => op_app t e z sz bytes ht hinfo hzs hsz hb0 s x ho hs hx hown hr h1 hb fun v' w' h2 h3 h4 => hK _ _ (h v' w' h2 h3 h4)
/-- append, as a step of a walk; where it lies anew whatever was there is there still. -/
theorem wp_app2 {P : Program} {ops : Array Oper} {rest : List Oper} {o : Oper} {a : Act} {W : World} {Q : Exit → Act → World → Prop} (t e : TypeId) (z : Value) (sz bytes : Nat) (ht : P.underlying t = some (.slice e))
    (hinfo : (P.info? e).map (fun i => (i.zero, i.size, i.bytes)) = some (some z, sz, bytes)) (hzs : z.cells.size = sz) (hsz : 0 < sz) (hb0 : 0 < bytes)
    (hgd : o.guard = none) (s x : Operand) (ho : o.op = .call { callee := .builtin .append, args := #[s, x], argTypes := #[t, t] })
    {v y : Value} {n m : Nat} {xs ys : List Value} (hs : a.eval s = v) (hx : a.eval x = y) (hown : Ow W e sz v n xs) (hr : Rd W y m sz ys) (h1 : ∀ u ∈ ys, u.oneCell' = true)
    (hb : (n + m) * bytes ≤ 140737488355328)
    (h : ∀ v' w', Ow w' e sz v' (n + m) (xs ++ ys) → W.grownBy w' v.ownBlock → (v'.ownBlock = v.ownBlock ∨ (v'.ownBlock = some W.heap.size ∧ Ext W w')) → wpList P ops Q rest (a.put o.dst v') w') :
    wpList P ops Q (o :: rest) a W := by
  refine wpList_plain hgd fun _ hK => ?_
  obtain ⟨v', w', hrun, h2, h3, h4⟩ := run_app2 (P := P) W t o.type e z sz bytes ht hinfo hzs hsz v y n m xs ys hown hr h1 hb hb0
  unfold Oper.wp execOp
  simp only [ho, resolve, invoke, builtin, Sem.run_bind, Sem.run_pure, Result.andThen_ok, List.map_toArray, List.map_cons, List.map_nil, hs, hx, hrun]
  exact hK _ _ (h v' w' h2 h3 h4)
/-- append, as a step of a region that draws its order. -/
theorem step_app {P : Program} {ops : Array Oper} {o : Oper} {a : Act} {W : World} {K : Act → World → Prop} {Q : Exit → Act → World → Prop} {E : Prop} (t e : TypeId) (z : Value) (sz bytes : Nat) (ht : P.underlying t = some (.slice e))
    (hinfo : (P.info? e).map (fun i => (i.zero, i.size, i.bytes)) = some (some z, sz, bytes)) (hzs : z.cells.size = sz) (hsz : 0 < sz) (hb0 : 0 < bytes)
    (hgd : o.guard = none) (s x : Operand) (ho : o.op = .call { callee := .builtin .append, args := #[s, x], argTypes := #[t, t] })
    {v y : Value} {n m : Nat} {xs ys : List Value} (hs : a.eval s = v) (hx : a.eval x = y) (hown : Ow W e sz v n xs) (hr : Rd W y m sz ys) (h1 : ∀ u ∈ ys, u.oneCell' = true)
    (hb : (n + m) * bytes ≤ 140737488355328)
    (h : ∀ v' w', Ow w' e sz v' (n + m) (xs ++ ys) → W.grownBy w' v.ownBlock → (v'.ownBlock = v.ownBlock ∨ v'.ownBlock = some W.heap.size) → K (a.put o.dst v') w') :
    if Region.wanted o (yielded ops a.tmps) = true then Oper.wp P o a W K Q else E := by
  rw [if_pos (by simp [Region.wanted, hgd])]
  exact op_app t e z sz bytes ht hinfo hzs hsz hb0 s x ho hs hx hown hr h1 hb h
theorem addr_add (g o j : Nat) : (⟨g, o, none⟩ : Addr).add j = ⟨g, o + j, none⟩ := by unfold Addr.add; split <;> simp_all
theorem addr_succ (ad : Addr) (k : Nat) : ad.add (k + 1) = ⟨ad.block, ad.off + (k + 1), none⟩ := by simp [Addr.add]
theorem addr_add0 (g j : Nat) : (⟨g, 0, none⟩ : Addr).add j = ⟨g, j, none⟩ := by rw [addr_add, Nat.zero_add]

/-- What an owned row that is not empty looks like: its cells are there and may be written. -/
theorem Ow.form {w : World} {T sz : Nat} {v : Value} {n : Nat} {xs : List Value} (h : Ow w T sz v n xs) (h0 : 0 < n) :
    ∃ g cap, v = .slice (some ⟨g, 0, none⟩) n cap ∧ n ≤ cap ∧ cap ≤ maxLen ∧ ∀ j u, xs[j]? = some u → w.cell? ⟨g, j, none⟩ = some u ∧ w.frozen? ⟨g, j, none⟩ = false := by
  rcases h.2 with ⟨_, h1⟩ | ⟨g, cap, cur, rfl, hg, hn, hcm, _, ht⟩
  · omega
  · refine ⟨g, cap, rfl, hn, hcm, fun j u hu => ⟨?_, frozen_of_row w g j cur T hg⟩⟩
    rw [cell_of_row w g j cur T (0, 0) hg]
    rw [← ht, List.getElem?_take] at hu
    split at hu
    · simpa using hu
    · cases hu
/-- A store into an owned row. -/
theorem Ow.set {w : World} {T sz g n cap : Nat} {xs : List Value} (h : Ow w T sz (.slice (some ⟨g, 0, none⟩) n cap) n xs) (j : Nat) (u : Value) :
    Ow (w.setCell ⟨g, j, none⟩ u) T sz (.slice (some ⟨g, 0, none⟩) n cap) n (xs.set j u) ∧ w.grownBy (w.setCell ⟨g, j, none⟩ u) (some g) := by
  refine ⟨?_, ⟨rfl, rfl, rfl, by simp, fun k _ hk => Below.heap_setCell _ _ _ _ (fun e => hk (by rw [e]))⟩⟩
  rcases h.2 with ⟨h1, _⟩ | ⟨g', cap', cur, he, hg, hn, hcm, hcs, ht⟩
  · cases h1
  · injection he with he1 _ he2
    injection he1 with he1
    injection he1 with he1
    subst he1 he2
    refine ⟨by simpa using h.1, .inr ⟨g, cap, cur.setIfInBounds j u, rfl, heap_setCell_same w g j cur T u hg, hn, hcm, by simpa using hcs, ?_⟩⟩
    rw [← ht]
    simp [List.take_set]

/-- make([]T, l, c). -/
theorem wp_make {P : Program} {ops : Array Oper} {rest : List Oper} {o : Oper} {a : Act} {W : World} {Q : Exit → Act → World → Prop} (t e : TypeId) (z : Value) (sz bytes : Nat) (ht : P.underlying t = some (.slice e))
    (hinfo : (P.info? e).map (fun i => (i.zero, i.size, i.bytes)) = some (some z, sz, bytes)) (hb0 : 0 < bytes)
    (hgd : o.guard = none) (x y : Operand) (ho : o.op = .makeSlice t x y) {kl kc : IntKind} {l c : Int} (hx : a.eval x = .int kl l) (hy : a.eval y = .int kc c)
    (h0 : 0 ≤ l) (hlc : l ≤ c) (hb : c * bytes ≤ 281474976710656)
    (h : ∀ v w1, Ow w1 e sz v l.toNat (madeCells z.cells (l.toNat * sz)).toList → From W.heap.size v → Ext W w1 → wpList P ops Q rest (a.put o.dst v) w1) :
    wpList P ops Q (o :: rest) a W := by
  refine wpList_plain hgd fun K hK => ?_
  obtain ⟨i, hi, hzz⟩ := Option.map_eq_some_iff.1 hinfo
  simp only [Prod.mk.injEq] at hzz
  obtain ⟨hz, rfl, rfl⟩ := hzz
  have hc : c ≤ c * (i.bytes : Int) := by
    have h1 := Int.mul_le_mul_of_nonneg_left (show (1 : Int) ≤ (i.bytes : Int) by omega) (show 0 ≤ c by omega)
    omega
  have hrun := run_make (P := P) W t e i z ht hi hz kl kc l c h0 hlc (by rw [Int.mul_comm]; exact hb) (by omega)
  unfold Oper.wp execOp
  simp only [ho, hx, hy, Sem.run_bind, Sem.run_pure, Result.andThen_ok, hrun]
  refine hK _ _ (h _ _ ⟨by simp [size_madeCells], .inr ⟨_, _, _, rfl, heap_alloc_new W _, by omega, by simp only [maxLen]; omega, by simp [size_madeCells], ?_⟩⟩ (From.new _ _ _ _ _ (Nat.le_refl _)) ((Ext.refl _).alloc _))
  have hle : l.toNat * i.size ≤ c.toNat * i.size := Nat.mul_le_mul_right _ (by omega)
  apply List.ext_getElem
  · simp only [List.length_take, Array.length_toList, size_madeCells]; omega
  · intro j h1 h2
    simp [madeCells]

/-- s[lo:hi] of what can be read. -/
theorem run_slice_rd {P : Program} (W : World) (t e : TypeId) (sz : Nat) (ht : P.underlying t = some (.slice e)) (hinfo : (P.info? e).map (·.size) = some sz)
    {v : Value} {n : Nat} {xs : List Value} (hv : Rd W v n sz xs) (lo hi : Option Value) (l h : Nat)
    (hlo : lo = none ∧ l = 0 ∨ ∃ k, lo = some (.int k (l : Int))) (hhi : hi = none ∧ h = n ∨ ∃ k, hi = some (.int k (h : Int))) (hlh : l ≤ h) (hn : h ≤ n) (hmax : n ≤ 9223372036854775807) :
    ∃ v', (Instr.sliceAt t v lo hi none).run P W = .ok v' W ∧ Rd W v' (h - l) sz ((xs.take (h * sz)).drop (l * sz)) := by
  obtain ⟨i, hi', hsz⟩ := Option.map_eq_some_iff.1 hinfo
  obtain ⟨hlen, A, c, rfl, hnc, hcells⟩ := hv
  subst hsz
  have wl : IntKind.i64.wrap (l : Int) = l := by rw [IntKind.wrap_i64]; omega
  have wh : IntKind.i64.wrap (h : Int) = h := by rw [IntKind.wrap_i64]; omega
  refine ⟨.slice (if c = l then A else A.map (·.add (l * i.size))) (h - l) (c - l), ?_, ?_⟩
  · rcases hlo with ⟨rfl, rfl⟩ | ⟨k, rfl⟩ <;> rcases hhi with ⟨rfl, rfl⟩ | ⟨k', rfl⟩
    · simp [Instr.sliceAt, Instr.slice, run_underlying ht, Instr.sliceBounds, sizeOf, typeInfo, hi']
    · simp [Instr.sliceAt, Instr.slice, run_underlying ht, Instr.sliceBounds, Instr.sliceBound, asIntOf, sizeOf, typeInfo, hi', Nat.le_trans hn hnc]
    · simp [Instr.sliceAt, Instr.slice, run_underlying ht, Instr.sliceBounds, Instr.sliceBound, asIntOf, sizeOf, typeInfo, hi', hlh]
    · simp [Instr.sliceAt, Instr.slice, run_underlying ht, Instr.sliceBounds, Instr.sliceBound, asIntOf, sizeOf, typeInfo, hi', Nat.le_trans hn hnc, hlh]
  · refine ⟨?_, _, _, rfl, by omega, ?_⟩
    · rw [List.length_drop, List.length_take, hlen, Nat.min_eq_left (Nat.mul_le_mul_right _ hn), Nat.sub_mul]
    · intro j u hu
      rw [List.getElem?_drop, List.getElem?_take] at hu
      split at hu
      · rename_i hj
        obtain ⟨ad, rfl, hc⟩ := hcells _ _ hu
        have hsz : 0 < i.size := by
          rcases Nat.eq_zero_or_pos i.size with h0 | h0
          · rw [h0] at hj; omega
          · exact h0
        have hlc : c ≠ l := by
          intro e
          have hhl : h ≤ l := by omega
          have : h * i.size ≤ l * i.size := Nat.mul_le_mul_right _ hhl
          omega
        rw [if_neg hlc]
        refine ⟨_, rfl, ?_⟩
        have hadd : (ad.add (l * i.size)).add j = ad.add (l * i.size + j) := by
          unfold Addr.add
          by_cases e1 : l * i.size = 0 <;> by_cases e2 : j = 0 <;> simp [e1, e2, Nat.add_assoc]
        rw [hadd]
        exact hc
      · cases hu

/-- A fresh literal row is owned. -/
theorem Ow.lit (w : World) (cs : Array Value) (T n sz : Nat) (h : cs.size = n * sz) (hn : n ≤ maxLen) : Ow (w.alloc (.cells cs T)) T sz (.slice (some ⟨w.heap.size, 0, none⟩) n n) n cs.toList :=
  ⟨by simpa using h, .inr ⟨_, _, _, rfl, heap_alloc_new w _, Nat.le_refl _, hn, by omega, by rw [List.take_of_length_le]; simpa using Nat.le_of_eq h⟩⟩

/-- A variable of the call's own: a whole block. -/
def Var (w : World) (b T : Nat) (cs : Array Value) : Prop := w.heap[b]? = some (.cells cs T (0, 0))
theorem Var.new (w : World) (cs : Array Value) (T : Nat) : Var (w.alloc (.cells cs T)) w.heap.size T cs := heap_alloc_new w _
theorem Var.lt {w : World} {b T : Nat} {cs : Array Value} (h : Var w b T cs) : b < w.heap.size := (Array.getElem?_eq_some_iff.1 h).1
theorem Var.cell {w : World} {b T : Nat} {cs : Array Value} (h : Var w b T cs) : ∀ o, w.cell? ⟨b, o, none⟩ = cs[o]? := fun o => cell_of_row w b o cs T (0, 0) h
theorem Var.frozen {w : World} {b T : Nat} {cs : Array Value} (h : Var w b T cs) : ∀ o, w.frozen? ⟨b, o, none⟩ = false := fun o => frozen_of_row w b o cs T h
theorem Var.ext {w w' : World} {b T : Nat} {cs : Array Value} (h : Var w b T cs) (he : Ext w w') : Var w' b T cs := he.obj h
theorem Var.alloc {w : World} {b T : Nat} {cs : Array Value} (h : Var w b T cs) (o : Obj) : Var (w.alloc o) b T cs := h.ext ((Ext.refl _).alloc o)
theorem Var.drew {w : World} {b T : Nat} {cs : Array Value} (h : Var w b T cs) : Var w.drew b T cs := h.ext (Ext.refl _).drew
theorem Var.drewN {w : World} {b T : Nat} {cs : Array Value} (h : Var w b T cs) (n : Nat) : Var (w.drewN n) b T cs := h.ext ((Ext.refl _).drewN n)
theorem Var.set {w : World} {b T : Nat} {cs : Array Value} (h : Var w b T cs) (i : Nat) (v : Value) : Var (w.setCell ⟨b, i, none⟩ v) b T (cs.setIfInBounds i v) := heap_setCell_same w b i cs T v h
theorem Var.set_other {w : World} {b b' T : Nat} {cs : Array Value} (h : Var w b T cs) (hne : b ≠ b') (i : Nat) (v : Value) : Var (w.setCell ⟨b', i, none⟩ v) b T cs :=
  (Below.heap_setCell _ _ _ _ hne).trans h
theorem Var.grown {w w' : World} {b T : Nat} {cs : Array Value} (h : Var w b T cs) {u : Value} (hg : w.grownBy w' u.ownBlock) (hne : u.ownBlock ≠ some b) : Var w' b T cs :=
  (hg.block b h.lt (fun e => hne e.symm)).trans h
theorem From.ne {lo b : Nat} {v : Value} (h : From lo v) (hb : b < lo) : v.ownBlock ≠ some b := fun e => by have := h b e; omega
theorem Ow.set_var {w : World} {T sz : Nat} {v : Value} {n : Nat} {xs : List Value} (h : Ow w T sz v n xs) {b : Nat} (hne : v.ownBlock ≠ some b) (i : Nat) (u : Value) : Ow (w.setCell ⟨b, i, none⟩ u) T sz v n xs :=
  h.kept fun k hk => Below.heap_setCell _ _ _ _ (fun e => hne (by rw [hk, e]))
theorem Rd.set_var {w : World} {v : Value} {n sz : Nat} {xs : List Value} (h : Rd w v n sz xs) {b : Nat} (hne : v.ownBlock ≠ some b) (i : Nat) (u : Value) : Rd (w.setCell ⟨b, i, none⟩ u) v n sz xs := by
  obtain ⟨hl, A, c, rfl, hn, hcells⟩ := h
  refine ⟨hl, A, c, rfl, hn, fun j x hx => ?_⟩
  obtain ⟨ad, rfl, h2⟩ := hcells j x hx
  refine ⟨ad, rfl, ?_⟩
  rw [World.cell?_setCell_other]
  · exact h2
  · intro e
    have hb : (ad.add j).block = ad.block := by unfold Addr.add; split <;> rfl
    exact hne (by simp only [Value.ownBlock]; rw [← hb, ← e])

end Go.Proofs.Ytckhefkedkipeaa

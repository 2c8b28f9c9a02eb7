/- The document's memtable: a list in order; the same entries. -/
import Derived.Test.YtckhefkedkipeaaMCollect
namespace Go.Proofs.Ytckhefkedkipeaa
open Go.RowKit
set_option linter.unusedVariables false

/-- A list of entries that reads as it should, nothing of it below block N. -/
structure RL (w : World) (N : Nat) (v : Value) (is : List Itm) : Prop where
  row : Rd w v is.length 7 (flat is)
  rd : ∀ i ∈ is, RdE w i.r i.q i.x i.e
  frm : ∀ z ∈ v :: strs is, From N z
theorem RL.fr {S : Nat → Prop} {w w' : World} {N : Nat} {v : Value} {is : List Itm} (h : RL w N v is) (hf : Fr S w w') (hS : ∀ b, S b → b < N) : RL w' N v is := by
  have ho : ∀ z ∈ v :: strs is, Off S z := fun z hz k hk hs => by have := h.frm z hz k hk; have := hS k hs; omega
  refine ⟨h.row.fr hf (ho v (by simp)), fun i hi => ?_, h.frm⟩
  have hm := mem_strs hi
  exact (h.rd i hi).fr hf hS ⟨h.frm _ (by simp [hm.1]), h.frm _ (by simp [hm.2.1]), h.frm _ (by simp [hm.2.2])⟩
theorem RL.ext {w w' : World} {N : Nat} {v : Value} {is : List Itm} (h : RL w N v is) (he : Ext w w') : RL w' N v is := h.fr (Fr.ext he fun _ => False) fun _ h => h.elim
theorem LL.rl {w w' : World} {v : Value} {is : List Itm} (h : LL w w' v is) : RL w' w.heap.size v is := ⟨h.row.rd, fun i hi => ⟨(h.own i hi).row.rd, (h.own i hi).qual.rd, (h.own i hi).value.rd⟩, h.frm⟩
theorem flat_len : ∀ is : List Itm, (flat is).length = is.length * 7
  | [] => rfl
  | i :: is => by have := flat_len is; simp [flat] at this ⊢; omega
theorem flat_at : ∀ (is : List Itm) (k : Nat) (i : Itm), is[k]? = some i → (flat is)[7 * k]? = some i.r ∧ (flat is)[7 * k + 1]? = some (.int .i64 i.e.fam) ∧ (flat is)[7 * k + 2]? = some i.q ∧ (flat is)[7 * k + 3]? = some (.int .i64 i.e.ts) ∧ (flat is)[7 * k + 4]? = some (.int .i64 i.e.seq) ∧ (flat is)[7 * k + 5]? = some (.int .i64 i.e.kind) ∧ (flat is)[7 * k + 6]? = some i.x
  | [], k, i, h => by simp at h
  | j :: is, 0, i, h => by simp at h; subst h; simp [flat]
  | j :: is, k + 1, i, h => by
    have := flat_at is k i (by simpa using h)
    have e : ∀ m, (flat (j :: is))[7 * (k + 1) + m]? = (flat is)[7 * k + m]? := fun m => by
      have : 7 * (k + 1) + m = (7 * k + m) + 7 := by omega
      rw [this]; simp [flat]
    have e0 := e 0
    simp only [Nat.add_zero] at e0
    rw [e0, e 1, e 2, e 3, e 4, e 5, e 6]
    exact this
/-- One element: its cells. -/
theorem RL.at_ {w : World} {N n : Nat} {A : Option Addr} {c : Nat} {is : List Itm} (h : RL w N (.slice A n c) is) (k : Nat) (hk : k < is.length) :
    ∃ a A1 d1 A2 d2 A3 d3 e, A = some a ∧ is[k]? = some ⟨.slice A1 (List.length e.row) d1, .slice A2 (List.length e.qual) d2, .slice A3 (List.length e.value) d3, e⟩ ∧ RdE w (.slice A1 e.row.length d1) (.slice A2 e.qual.length d2) (.slice A3 e.value.length d3) e ∧
      w.cell? (a.add (k * 7)) = some (.slice A1 e.row.length d1) ∧ w.cell? ⟨(a.add (k * 7)).block, (a.add (k * 7)).off + 1, none⟩ = some (.int .i64 e.fam) ∧ w.cell? ⟨(a.add (k * 7)).block, (a.add (k * 7)).off + 2, none⟩ = some (.slice A2 e.qual.length d2) ∧ w.cell? ⟨(a.add (k * 7)).block, (a.add (k * 7)).off + 3, none⟩ = some (.int .i64 e.ts) ∧ w.cell? ⟨(a.add (k * 7)).block, (a.add (k * 7)).off + 4, none⟩ = some (.int .i64 e.seq) ∧ w.cell? ⟨(a.add (k * 7)).block, (a.add (k * 7)).off + 5, none⟩ = some (.int .i64 e.kind) ∧ w.cell? ⟨(a.add (k * 7)).block, (a.add (k * 7)).off + 6, none⟩ = some (.slice A3 e.value.length d3) := by
  have hit := List.getElem?_eq_getElem hk
  have hmem := List.getElem_mem hk
  have hr := h.rd _ hmem
  generalize is[k] = i at *
  obtain ⟨ir, iq, ix, e⟩ := i
  dsimp only at hr
  obtain ⟨A1, d1, rfl, _⟩ := hr.row.shape
  obtain ⟨A2, d2, rfl, _⟩ := hr.qual.shape
  obtain ⟨A3, d3, rfl, _⟩ := hr.value.shape
  obtain ⟨f0, f1, f2, f3, f4, f5, f6⟩ := flat_at is k _ hit
  obtain ⟨_, A', c', e', _, hcells⟩ := h.row
  cases e'
  obtain ⟨a, rfl, h0⟩ := hcells _ _ f0
  have hc : ∀ m u, (flat is)[7 * k + m]? = some u → w.cell? ((a.add (k * 7)).add m) = some u := fun m u hu => by
    obtain ⟨a', ea, h'⟩ := hcells _ _ hu
    cases ea
    rw [← h']
    congr 1
    unfold Addr.add
    by_cases h1 : k = 0
    · subst h1; simp
    · by_cases h2 : m = 0
      · subst h2; simp [Nat.mul_comm]
      · have h7 : k * 7 ≠ 0 := by omega
        simp [h2, h7, Nat.mul_comm 7 k, Nat.add_assoc]
  have h0' := hc 0 _ f0
  have hp : ∀ m : Nat, m ≠ 0 → (a.add (k * 7)).add m = ⟨(a.add (k * 7)).block, (a.add (k * 7)).off + m, none⟩ := fun m hm => by
    generalize a.add (k * 7) = y
    unfold Addr.add
    rw [if_neg hm]
  refine ⟨a, A1, d1, A2, d2, A3, d3, e, rfl, hit, hr, ?_, (hp 1 (by omega)) ▸ hc 1 _ f1, (hp 2 (by omega)) ▸ hc 2 _ f2, (hp 3 (by omega)) ▸ hc 3 _ f3, (hp 4 (by omega)) ▸ hc 4 _ f4, (hp 5 (by omega)) ▸ hc 5 _ f5, (hp 6 (by omega)) ▸ hc 6 _ f6⟩
  simpa [Addr.add] using h0'

set_option maxHeartbeats 2000000 in
set_option maxRecDepth 100000 in
theorem sameEntry_ok (r q x r' q' x' : Value) (e : Ent) (w : World) (h : RdE w r q x e) (h' : RdE w r' q' x' e) (f1 : e.row.length ≤ 140737488351232) (f2 : e.qual.length ≤ 140737488351232) (f3 : e.value.length ≤ 140737488351232) :
    Calls Try.prog 20 #[.agg (entCells r q x e), .agg (entCells r' q' x' e)] w fun e0 w' => e0 = .returned (.bool true) ∧ Ext w w' := by
  have hV1 := (Var.new w (entCells r q x e) 25).alloc (.cells (entCells r' q' x' e) 25)
  have hV2 := Var.new (w.alloc (.cells (entCells r q x e) 25)) (entCells r' q' x' e) 25
  have hE := ((Ext.refl w).alloc (.cells (entCells r q x e) 25)).alloc (.cells (entCells r' q' x' e) 25)
  unfold entCells at hV1 hV2 hE ⊢
  obtain ⟨X, hX⟩ : ∃ X, ((w.alloc (.cells #[r, .int .i64 e.fam, q, .int .i64 e.ts, .int .i64 e.seq, .int .i64 e.kind, x] 25)).alloc (.cells #[r', .int .i64 e.fam, q', .int .i64 e.ts, .int .i64 e.seq, .int .i64 e.kind, x'] 25)) = X := ⟨_, rfl⟩
  rw [hX] at hV1 hV2 hE
  rw [World.size_alloc] at hV2
  have c1 := hV1.cell
  have c2 := hV2.cell
  have H1 := Lib.hid (fun W' (hx : Ext X W') => same8_ok r r' e.row W' (h.row.ext (hE.trans hx)) (h'.row.ext (hE.trans hx)) (by omega))
  have H2 := Lib.hid (fun W' (hx : Ext X W') => same8_ok q q' e.qual W' (h.qual.ext (hE.trans hx)) (h'.qual.ext (hE.trans hx)) (by omega))
  have H3 := Lib.hid (fun W' (hx : Ext X W') => same8_ok x x' e.value W' (h.value.ext (hE.trans hx)) (h'.value.ext (hE.trans hx)) (by omega))
  clear hV1 hV2 h h'
  go_enter Try.func20, Try.ntmps20
  go_wp2_with fail
  clear hX
  go_wp2_with (first
    | (go_at_call 34; (with_reducible refine (H1.out _ (Ext.refl _)).mono ?_); rintro e0 w1 ⟨rfl, m1, rfl⟩)
    | (go_at_call 34; (with_reducible refine (H2.out _ ((Ext.refl _).drewN _)).mono ?_); rintro e0 w1 ⟨rfl, m2, rfl⟩)
    | (go_at_call 34; (with_reducible refine (H3.out _ ((Ext.refl _).drewN _)).mono ?_); rintro e0 w1 ⟨rfl, m3, rfl⟩))
  go_ret
  exact ⟨rfl, hE.drewN _⟩

set_option maxHeartbeats 2000000 in
set_option maxRecDepth 100000 in
theorem sameList_ok (v u : Value) (is js : List Itm) (N1 N2 : Nat) (w : World) (hv : RL w N1 v is) (hu : RL w N2 u js) (he : is.map (·.e) = js.map (·.e)) (hf : ∀ i ∈ is, i.e.row.length ≤ 140737488351232 ∧ i.e.qual.length ≤ 140737488351232 ∧ i.e.value.length ≤ 140737488351232) (hn : is.length ≤ 1000) :
    Calls Try.prog 12 #[v, u] w fun e0 w' => e0 = .returned (.bool true) ∧ Ext w w' := by
  have hlen : is.length = js.length := by have := congrArg List.length he; simpa using this
  obtain ⟨_, A, c, rfl, hc, _⟩ := hv.row
  obtain ⟨_, B, d, rfl, hd, _⟩ := hu.row
  rw [← hlen] at hu hd ⊢
  have HV := Lib.hid hv
  have HU := Lib.hid hu
  have HE := Lib.hid he
  have HF := Lib.hid hf
  have HL := Lib.hid hlen
  clear hv hu he hf hlen
  go_enter Try.func12, Try.ntmps12
  go_wp2_with fail
  go_loopg [5] is.length (fun g x wr => ∃ k : Nat, x = .int .i64 k ∧ k + g = is.length ∧ Ext w wr)
  case atStart => exact ⟨0, rfl, by omega, Ext.refl _⟩
  case round =>
    obtain ⟨k, rfl, hkg, hE⟩ := hrel
    by_cases hlt : k < is.length
    · obtain ⟨a, A1, d1, A2, d2, A3, d3, e, rfl, hit, hr, c0, c1, c2, c3, c4, c5, c6⟩ := (HV.out.ext hE).at_ k hlt
      obtain ⟨b, B1, g1, B2, g2, B3, g3, e', rfl, hit', hr', k0, k1, k2, k3, k4, k5, k6⟩ := (HU.out.ext hE).at_ k (by have := HL.out; omega)
      have hee : e' = e := by
        have h1 := congrArg (fun l => l[k]?) HE.out
        simp only [List.getElem?_map, hit, hit', Option.map_some, Option.some.injEq] at h1
        exact h1.symm
      subst hee
      have hfe := HF.out _ (List.mem_of_getElem? hit)
      have HS := Lib.hid (fun W' (h : Ext wr W') => sameEntry_ok _ _ _ _ _ _ e' W' (hr.ext h) (hr'.ext h) hfe.1 hfe.2.1 hfe.2.2)
      unfold entCells at HS
      have h10 : (0 : Int) ≤ (k : Int) := by omega
      have h11 : (k : Int) < (is.length : Int) := by omega
      clear hit hit' hr hr' hfe
      go_wp2_with fail
      have hk : ∀ w', Ext wr w' → w'.cell? (a.add (k * 7)) = some (.slice A1 e'.row.length d1) ∧ w'.cell? ⟨(a.add (k * 7)).block, (a.add (k * 7)).off + 1, none⟩ = some (.int .i64 e'.fam) ∧ w'.cell? ⟨(a.add (k * 7)).block, (a.add (k * 7)).off + 2, none⟩ = some (.slice A2 e'.qual.length d2) ∧ w'.cell? ⟨(a.add (k * 7)).block, (a.add (k * 7)).off + 3, none⟩ = some (.int .i64 e'.ts) ∧ w'.cell? ⟨(a.add (k * 7)).block, (a.add (k * 7)).off + 4, none⟩ = some (.int .i64 e'.seq) ∧ w'.cell? ⟨(a.add (k * 7)).block, (a.add (k * 7)).off + 5, none⟩ = some (.int .i64 e'.kind) ∧ w'.cell? ⟨(a.add (k * 7)).block, (a.add (k * 7)).off + 6, none⟩ = some (.slice A3 e'.value.length d3) ∧ w'.cell? (b.add (k * 7)) = some (.slice B1 e'.row.length g1) ∧ w'.cell? ⟨(b.add (k * 7)).block, (b.add (k * 7)).off + 1, none⟩ = some (.int .i64 e'.fam) ∧ w'.cell? ⟨(b.add (k * 7)).block, (b.add (k * 7)).off + 2, none⟩ = some (.slice B2 e'.qual.length g2) ∧ w'.cell? ⟨(b.add (k * 7)).block, (b.add (k * 7)).off + 3, none⟩ = some (.int .i64 e'.ts) ∧ w'.cell? ⟨(b.add (k * 7)).block, (b.add (k * 7)).off + 4, none⟩ = some (.int .i64 e'.seq) ∧ w'.cell? ⟨(b.add (k * 7)).block, (b.add (k * 7)).off + 5, none⟩ = some (.int .i64 e'.kind) ∧ w'.cell? ⟨(b.add (k * 7)).block, (b.add (k * 7)).off + 6, none⟩ = some (.slice B3 e'.value.length g3) := fun w' h => ⟨h.cell c0, h.cell c1, h.cell c2, h.cell c3, h.cell c4, h.cell c5, h.cell c6, h.cell k0, h.cell k1, h.cell k2, h.cell k3, h.cell k4, h.cell k5, h.cell k6⟩
      have HK := Lib.hid hk
      clear hk c0 c1 c2 c3 c4 c5 c6 k0 k1 k2 k3 k4 k5 k6
      go_region_held3 (fun w' => w'.cell? (a.add (k * 7)) = some (.slice A1 e'.row.length d1) ∧ w'.cell? ⟨(a.add (k * 7)).block, (a.add (k * 7)).off + 1, none⟩ = some (.int .i64 e'.fam) ∧ w'.cell? ⟨(a.add (k * 7)).block, (a.add (k * 7)).off + 2, none⟩ = some (.slice A2 e'.qual.length d2) ∧ w'.cell? ⟨(a.add (k * 7)).block, (a.add (k * 7)).off + 3, none⟩ = some (.int .i64 e'.ts) ∧ w'.cell? ⟨(a.add (k * 7)).block, (a.add (k * 7)).off + 4, none⟩ = some (.int .i64 e'.seq) ∧ w'.cell? ⟨(a.add (k * 7)).block, (a.add (k * 7)).off + 5, none⟩ = some (.int .i64 e'.kind) ∧ w'.cell? ⟨(a.add (k * 7)).block, (a.add (k * 7)).off + 6, none⟩ = some (.slice A3 e'.value.length d3) ∧ w'.cell? (b.add (k * 7)) = some (.slice B1 e'.row.length g1) ∧ w'.cell? ⟨(b.add (k * 7)).block, (b.add (k * 7)).off + 1, none⟩ = some (.int .i64 e'.fam) ∧ w'.cell? ⟨(b.add (k * 7)).block, (b.add (k * 7)).off + 2, none⟩ = some (.slice B2 e'.qual.length g2) ∧ w'.cell? ⟨(b.add (k * 7)).block, (b.add (k * 7)).off + 3, none⟩ = some (.int .i64 e'.ts) ∧ w'.cell? ⟨(b.add (k * 7)).block, (b.add (k * 7)).off + 4, none⟩ = some (.int .i64 e'.seq) ∧ w'.cell? ⟨(b.add (k * 7)).block, (b.add (k * 7)).off + 5, none⟩ = some (.int .i64 e'.kind) ∧ w'.cell? ⟨(b.add (k * 7)).block, (b.add (k * 7)).off + 6, none⟩ = some (.slice B3 e'.value.length g3))
        (first | exact HK.out _ (Ext.refl _).drew | exact HK.out _ ((Ext.refl _).drew.trans he1))
        (first | (go_at_call 20; refine (HS.out _ (Ext.refl _).drew).mono ?_; rintro e0 w1 ⟨rfl, he1⟩))
      go_wp2
      go_roundg (gk - 1)
      case measure => omega
      case rel => exact ⟨k + 1, by go_num, by omega, hE.trans ((Ext.refl _).drew.trans he1)⟩
    · have hkl : is.length ≤ k := by omega
      go_wp2
      go_ret
      exact ⟨rfl, hE⟩
end Go.Proofs.Ytckhefkedkipeaa

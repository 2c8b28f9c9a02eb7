/- The walk of CellLent: what stands between its parts. -/
import Derived.Test.YtckhefkedkipeabMain0
namespace Go.Proofs.Ytckhefkedkipeab
open Go.RowKit

/-- What a Kept holds: as many byte strings as these, each as its copy. -/
structure Ksm (w : World) (N p : Nat) (Lv Wv : Value) (its : List It) (ls : List (List Int)) : Prop where
  st : Kst w N p Lv Wv its
  ms : its.map (·.m) = ls
  same : ∀ it ∈ its, it.l = it.m
theorem Ksm.new {w : World} {q : Nat} (h : Var w q 28 #[.slice none 0 0, .slice none 0 0]) : Ksm w q q (.slice none 0 0) (.slice none 0 0) [] [] := by
  refine ⟨⟨h, Ow.nil _ _ _, Ow.nil _ _ _, by simp, by simp, ?_, ?_⟩, rfl, by simp⟩
  · simp only [pcs, vals, List.flatMap_nil, List.pairwise_cons, List.mem_cons, List.not_mem_nil, or_false]
    refine ⟨?_, ?_, by simp, List.Pairwise.nil⟩
    · rintro z (rfl | rfl) <;> exact Sep.nil _ _ _
    · rintro z rfl; exact Sep.nil _ _ _
  · intro z hz
    simp only [pcs, vals, List.flatMap_nil, List.mem_cons, List.not_mem_nil, or_false] at hz
    rcases hz with rfl | rfl | rfl
    · intro k hk; simp [pv, Value.ownBlock] at hk; omega
    · exact From.nil _ _ _
    · exact From.nil _ _ _
theorem Mkd.tri {its its' : List It} {Q : Nat → Nat → Prop} (h : Mkd its its' Q) : its'.map (fun it => (it.v, it.u, it.m)) = its.map (fun it => (it.v, it.u, it.m)) := by
  apply List.ext_getElem
  · simp [h.len]
  · intro k h1 h2
    have hk : k < its.length := by simpa using h2
    have hk' : k < its'.length := by simpa using h1
    obtain ⟨l', e, _⟩ := h.at_ k its[k] (List.getElem?_eq_getElem hk)
    rw [List.getElem?_eq_getElem hk'] at e
    have e := Option.some.inj e
    simp [e]
theorem vals_tri (its : List It) : vals its = (its.map (fun it => (it.v, it.u, it.m))).flatMap fun t => [t.1, t.2.1] := by simp [vals, List.flatMap_map]
theorem Mkd.vals {its its' : List It} {Q : Nat → Nat → Prop} (h : Mkd its its' Q) : vals its' = vals its := by rw [vals_tri, vals_tri, h.tri]
theorem Mkd.ms {its its' : List It} {Q : Nat → Nat → Prop} (h : Mkd its its' Q) : its'.map (·.m) = its.map (·.m) := by
  have e : ∀ l : List It, l.map (·.m) = (l.map (fun it => (it.v, it.u, it.m))).map (·.2.2) := fun l => by simp
  rw [e, e, h.tri]
theorem Mkd.full {its its' : List It} (h : Mkd its its' (fun _ _ => True)) : ∀ k it, its'[k]? = some it → it.l = List.replicate it.l.length (mark k) := by
  intro k it hk
  have hk1 : k < its.length := by
    have := (List.getElem?_eq_some_iff.1 hk).1
    have := h.len
    omega
  obtain ⟨l', h1, h2, h3⟩ := h.at_ k _ (List.getElem?_eq_getElem hk1)
  have h4 : it.l = l' := it_len h1 hk
  rw [h4]
  exact rep_of l' _ fun j hj => h3 j hj trivial
theorem Ksm.len {w : World} {N p : Nat} {Lv Wv : Value} {its : List It} {ls : List (List Int)} (h : Ksm w N p Lv Wv its ls) : its.length = ls.length := by rw [← h.ms]; simp

/-- A Kept that was settled. -/
structure Wst (w : World) (N p : Nat) (Lv Wv : Value) (its : List It) (ls : List (List Int)) : Prop where
  st : Lst w N p Lv Wv its its.length
  ms : its.map (·.m) = ls
  mkd : ∀ k it, its[k]? = some it → it.l = List.replicate it.l.length (mark k)

def rep (A : List (List Int)) : Nat → List (List Int)
  | 0 => []
  | n + 1 => rep A n ++ A
theorem rep_len (A : List (List Int)) (h : A.length = 26) : ∀ n, (rep A n).length = 26 * n
  | 0 => rfl
  | n + 1 => by simp only [rep, List.length_append, rep_len A h n, h]; omega
/-- A Kept that was settled, elsewhere. -/
def Old (A : List (List Int)) (was : Value) (N : Nat) (wr : World) : Prop :=
  ∃ N0 p0 L0 W0 its0, was = .pointer (some ⟨p0, 0, none⟩) ∧ Wst wr N0 p0 L0 W0 its0 (rep A 2) ∧ ∀ z ∈ pcs p0 L0 W0 its0, ∀ b, z.ownBlock = some b → b < N
/-- The state at the head of CellLent's loop. -/
def Head (W : World) (A : List (List Int)) (k was : Value) (i : Nat) (wr : World) : Prop :=
  Ext W wr ∧ ∃ N p Lv Wv its, k = .pointer (some ⟨p, 0, none⟩) ∧ W.heap.size ≤ N ∧
    ((i ≤ 2 ∧ was = .pointer none ∧ Ksm wr N p Lv Wv its (rep A i)) ∨ (i = 3 ∧ Ksm wr N p Lv Wv its A ∧ Old A was N wr))
/-- The state behind the turn to a new Kept. -/
def Mid (W : World) (A : List (List Int)) (i : Nat) (k was n : Value) (wr : World) : Prop :=
  Ext W wr ∧ ∃ N p Lv Wv its P, k = .pointer (some ⟨p, 0, none⟩) ∧ W.heap.size ≤ N ∧ Ksm wr N p Lv Wv its P ∧ n = .int .i64 its.length ∧
    ((i ≤ 1 ∧ was = .pointer none ∧ P = rep A i) ∨ (i = 2 ∧ P = [] ∧ Old A was N wr))

theorem Old.fr {A : List (List Int)} {was : Value} {N : Nat} {w w' : World} (h : Old A was N w) {S : Nat → Prop} (hf : Fr S w w') (hS : ∀ b, S b → N ≤ b) : Old A was N w' := by
  obtain ⟨N0, p0, L0, W0, its0, rfl, hw, hlt⟩ := h
  exact ⟨N0, p0, L0, W0, its0, rfl, ⟨hw.st.fr hf fun z hz b hb hs => by have := hlt z hz b hb; have := hS b hs; omega, hw.ms, hw.mkd⟩, hlt⟩
theorem Kst.tbN {w : World} {N p : Nat} {Lv Wv : Value} {its : List It} (h : Kst w N p Lv Wv its) {b : Nat} (ht : Tb p Lv Wv b) : N ≤ b := by
  rcases ht with rfl | ht | ht
  · exact h.frm (pv b) (by simp [pcs]) b (by simp [pv, Value.ownBlock])
  · exact h.frm Lv (by simp [pcs]) b ht
  · exact h.frm Wv (by simp [pcs]) b ht
/-- Which Kept is compared with. -/
theorem fst_pick {A : List (List Int)} {i p N : Nat} {was Lv Wv : Value} {fin : List It} {P : List (List Int)} {w : World} (h : (i ≤ 1 ∧ was = .pointer none ∧ P = rep A i) ∨ (i = 2 ∧ P = [] ∧ Old A was N w)) (hk : Kst w N p Lv Wv fin) (hms : fin.map (·.m) = P ++ A) :
    ∃ pF NF LF WF F iF R, ((was = .pointer none ∧ pF = p) ∨ was = .pointer (some ⟨pF, 0, none⟩)) ∧ Lst w NF pF LF WF F iF ∧ F.map (·.m) = A ++ R := by
  rcases h with ⟨hi, hw, rfl⟩ | ⟨rfl, rfl, N0, p0, L0, W0, its0, hw, hs, _⟩
  · obtain rfl | rfl : i = 0 ∨ i = 1 := by omega
    · exact ⟨p, N, Lv, Wv, fin, 0, [], .inl ⟨hw, rfl⟩, hk.lst, by rw [hms]; simp [rep]⟩
    · exact ⟨p, N, Lv, Wv, fin, 0, A, .inl ⟨hw, rfl⟩, hk.lst, by rw [hms]; simp [rep]⟩
  · exact ⟨p0, N0, L0, W0, its0, _, A, .inr hw, hs.st, by rw [hs.ms]; simp [rep]⟩
/-- One comparison: the cells, and that the two byte strings are alike. -/
theorem cmp_at {w : World} {N p NF pF iF n fn : Nat} {Wv LF : Value} {Al AF : Option Addr} {cl cf : Nat} {fin F : List It} {P A R : List (List Int)} (hk : Kst w N p (.slice Al fin.length cl) Wv fin) (hs : ∀ it ∈ fin, it.l = it.m) (hms : fin.map (·.m) = P ++ A) (hP : P.length = n) (hfn : fn = F.length)
    (hF : Lst w NF pF LF (.slice AF fn cf) F iF) (hFm : F.map (·.m) = A ++ R) (j : Nat) (hj : n + j < fin.length) :
    ∃ a A1 c1 b A2 c2 l, Al = some a ∧ AF = some b ∧ w.cell? (a.add (n + j)) = some (.slice A1 (List.length l) c1) ∧ w.cell? (b.add j) = some (.slice A2 l.length c2) ∧ RdB w (.slice A1 l.length c1) l ∧ RdB w (.slice A2 l.length c2) l ∧ l.length ≤ 140737488350000 ∧ j < fn := by
  subst hfn
  have hlen : fin.length = n + A.length := by have := congrArg List.length hms; simp at this; omega
  have hFlen : F.length = A.length + R.length := by have := congrArg List.length hFm; simp at this; omega
  have hjF : j < F.length := by omega
  have e1 : fin[n + j].m = A[j]'(by omega) := by
    have : (fin.map (·.m))[n + j]'(by simp; omega) = (P ++ A)[n + j]'(by simp; omega) := by simp [hms]
    rw [List.getElem_map] at this
    rw [this, List.getElem_append_right (by omega)]
    congr 1; omega
  have e2 : F[j].m = A[j]'(by omega) := by
    have : (F.map (·.m))[j]'(by simp; omega) = (A ++ R)[j]'(by simp; omega) := by simp [hFm]
    rw [List.getElem_map] at this
    rw [this, List.getElem_append_left]
  have hmem := List.getElem_mem hj
  have hmemF := List.getElem_mem hjF
  have hit := List.getElem?_eq_getElem hj
  have hitF := List.getElem?_eq_getElem hjF
  have h1 := (hk.own _ hmem).1.rd
  have h2 := (hF.rd _ hmemF).2.rd
  have h3 := hs _ hmem
  have h4 := (hk.small _ hmem).1
  have hA : j < A.length := by omega
  obtain ⟨lc, hlc⟩ : ∃ lc, lc = A[j] := ⟨_, rfl⟩
  rw [← hlc] at e1 e2
  generalize fin[n + j] = x at *
  generalize F[j] = y at *
  obtain ⟨xv, xu, xl, xm⟩ := x
  obtain ⟨yv, yu, yl, ym⟩ := y
  simp only at h1 h2 h3 h4 e1 e2
  subst e1 h3
  subst e2
  obtain ⟨A1, c1, rfl, _⟩ := h1.shape
  obtain ⟨A2, c2, rfl, _⟩ := h2.shape
  obtain ⟨_, A0, c0, e, _, hcells⟩ := hk.L.rd
  cases e
  obtain ⟨a, e3, h5⟩ := hcells (n + j) (.slice A1 (List.length ym) c1) (by simp [hit])
  obtain ⟨_, A0, c0, e, _, hcells⟩ := hF.W.rd
  cases e
  obtain ⟨b, e4, h6⟩ := hcells j (.slice A2 (List.length ym) c2) (by simp [hitF])
  exact ⟨a, A1, c1, b, A2, c2, ym, e3, e4, h5, h6, h1, h2, h4, hjF⟩

/-- What rounds have kept since a world. -/
def Rnd (Wl : World) (N p : Nat) (Lv0 Wv0 : Value) (its : List It) (L : List (List Int)) (wr : World) : Prop :=
  ∃ Lv Wv new, KO Wl N p Lv0 Wv0 its new wr Lv Wv ∧ new.map (·.m) = L ∧ (∀ it ∈ new, it.l = it.m) ∧ ∀ it ∈ new, From Wl.heap.size it.v
theorem Ext.store7 {w0 w w2 : World} {v : World} (h : Ext w0 w) (hb : w.grownBy w2 (some v.heap.size)) (hk : w0.heap.size ≤ v.heap.size) : Ext w0 w2 := h.put hb hk

set_option maxHeartbeats 400000 in
theorem same_q (v u : Value) (l : List Int) (w : World) (hv : RdB w v l) (hu : RdB w u l) (hl : l.length ≤ 140737488355328) :
    Calls Try.prog 16 #[v, u] w fun e w' => e = .returned (.bool true) ∧ ∃ m, w' = w.drewN m := by
  obtain ⟨A, c, rfl, hc⟩ := hv.shape
  obtain ⟨B, d, rfl, hd⟩ := hu.shape
  have hcV : ∀ (k : Nat), k < l.length → ∃ a b, A = some a ∧ B = some b ∧ w.cell? (a.add k) = some (.int .u8 (gt l k)) ∧ w.cell? (b.add k) = some (.int .u8 (gt l k)) := by
    intro k hk
    obtain ⟨a, ha, h1⟩ := hv.at_ k hk
    obtain ⟨b, hb, h2⟩ := hu.at_ k hk
    exact ⟨a, b, ha, hb, h1, h2⟩
  have HC := Lib.hid hcV
  clear hcV hv hu
  go_enter Try.func16, Try.ntmps16
  go_wp2
  go_loopw [5] (fun x wr => (Ext w wr ∧ ∃ m, wr = w.drewN m) ∧ ∃ k : Nat, k ≤ l.length ∧ x = .int .i64 k) (fun x _ => l.length - (intOf x).toNat)
  case atStart => exact ⟨⟨Ext.refl _, 0, rfl⟩, 0, by omega, rfl⟩
  case round =>
    obtain ⟨⟨he, m, hm⟩, k, hk, rfl⟩ := hrel
    have HM := Lib.hid hm
    clear hm
    by_cases hlt : k < l.length
    · obtain ⟨a, b, rfl, rfl, h1', h2'⟩ := HC.out k hlt
      have h1 := he.cell h1'
      have h2 := he.cell h2'
      clear h1' h2'
      generalize gt l k = g at *
      go_wp2_with fail
      go_quiet (fail)
      go_wp2
      go_roundw
      case rel => exact ⟨⟨he.drewN _, m + _, by rw [HM.out, World.drewN_drewN]⟩, k + 1, by omega, by go_num⟩
      case measure => simp [intOf]; omega
    · have hkl2 : l.length ≤ k := by omega
      go_wp2
      go_ret
      exact ⟨rfl, m, HM.out⟩

end Go.Proofs.Ytckhefkedkipeab

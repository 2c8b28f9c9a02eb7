/- Byte strings that were handed out and lie untouched. -/
import Derived.Test.YtckhefkedkipeaaFr
import Derived.Deep.AppendLies
import Derived.Deep.RegionLaw
namespace Go.Proofs.Ytckhefkedkipeaa
open Go.RowKit

theorem infoS : (Try.prog.info? 23).map (fun i => (i.zero, i.size, i.bytes)) = some (some (.slice none 0 0), 1, 24) := by kernel_rfl
/-- append onto a table of byte strings. -/
theorem appS {ops : Array Oper} {rest : List Oper} {o : Oper} {a : Act} {W : World} {Q : Exit → Act → World → Prop}
    (hgd : o.guard = none) (s x : Operand) (ho : o.op = .call { callee := .builtin .append, args := #[s, x], argTypes := #[37, 37] })
    {v y : Value} {n m : Nat} {xs ys : List Value} (hs : a.eval s = v) (hx : a.eval x = y) (hown : Ow W 23 1 v n xs) (hr : Rd W y m 1 ys) (h1 : ∀ u ∈ ys, u.oneCell' = true) (hb : n + m ≤ 100000)
    (h : ∀ v' w', Ow w' 23 1 v' (n + m) (xs ++ ys) → W.grownBy w' v.ownBlock → (v'.ownBlock = v.ownBlock ∨ v'.ownBlock = some W.heap.size) → wpList Try.prog ops Q rest (a.put o.dst v') w') :
    wpList Try.prog ops Q (o :: rest) a W :=
  wp_app 37 23 (.slice none 0 0) 1 24 Try.underlying37 infoS rfl (by omega) (by omega) hgd s x ho hs hx hown hr h1 (by omega) h
theorem stepS {ops : Array Oper} {o : Oper} {a : Act} {W : World} {K : Act → World → Prop} {Q : Exit → Act → World → Prop} {E : Prop}
    (hgd : o.guard = none) (s x : Operand) (ho : o.op = .call { callee := .builtin .append, args := #[s, x], argTypes := #[37, 37] })
    {v y : Value} {n m : Nat} {xs ys : List Value} (hs : a.eval s = v) (hx : a.eval x = y) (hown : Ow W 23 1 v n xs) (hr : Rd W y m 1 ys) (h1 : ∀ u ∈ ys, u.oneCell' = true) (hb : n + m ≤ 100000)
    (h : ∀ v' w', Ow w' 23 1 v' (n + m) (xs ++ ys) → W.grownBy w' v.ownBlock → (v'.ownBlock = v.ownBlock ∨ v'.ownBlock = some W.heap.size) → K (a.put o.dst v') w') :
    if Region.wanted o (yielded ops a.tmps) = true then Oper.wp Try.prog o a W K Q else E :=
  step_app 37 23 (.slice none 0 0) 1 24 Try.underlying37 infoS rfl (by omega) (by omega) hgd s x ho hs hx hown hr h1 (by omega) h
theorem Rd.one (w : World) (v : Value) (T : Nat) : Rd (w.alloc (.cells #[v] T)) (.slice (some ⟨w.heap.size, 0, none⟩) 1 1) 1 1 [v] := Rd.lit w #[v] T 1 1 rfl

/-- A byte string handed out, its copy, what each holds. -/
structure It where
  v : Value
  u : Value
  l : List Int
  m : List Int
def pv (p : Nat) : Value := .slice (some ⟨p, 0, none⟩) 0 0
def vals (its : List It) : List Value := its.flatMap fun it => [it.v, it.u]
def pcs (p : Nat) (Lv Wv : Value) (its : List It) : List Value := pv p :: Lv :: Wv :: vals its
/-- It lies in a block that none of these has. -/
def Clr (zs : List Value) (y : Value) : Prop := ∀ z ∈ zs, Sep z y
structure Kst (w : World) (N p : Nat) (Lv Wv : Value) (its : List It) : Prop where
  var : Var w p 39 #[Lv, Wv]
  L : Ow w 23 1 Lv its.length (its.map (·.v))
  W : Ow w 23 1 Wv its.length (its.map (·.u))
  own : ∀ it ∈ its, OwB w it.v it.l ∧ OwB w it.u it.m
  small : ∀ it ∈ its, it.l.length ≤ 140737488350000 ∧ it.m.length ≤ 140737488350000
  sep : (pcs p Lv Wv its).Pairwise Sep
  frm : ∀ z ∈ pcs p Lv Wv its, From N z
/-- The blocks that Keep writes. -/
def Tb (p : Nat) (Lv Wv : Value) (k : Nat) : Prop := k = p ∨ Lv.ownBlock = some k ∨ Wv.ownBlock = some k
theorem Clr.off {p : Nat} {Lv Wv : Value} {its : List It} {y : Value} (h : Clr (pcs p Lv Wv its) y) : Off (Tb p Lv Wv) y := by
  intro k hk ht
  rcases ht with rfl | ht | ht
  · exact h (pv k) (by simp [pcs]) k (by simp [pv, Value.ownBlock]) hk
  · exact h Lv (by simp [pcs]) k ht hk
  · exact h Wv (by simp [pcs]) k ht hk

theorem Ow.shape {w : World} {T sz : Nat} {v : Value} {n : Nat} {xs : List Value} (h : Ow w T sz v n xs) : ∃ A c, v = .slice A n c ∧ n ≤ c := by
  obtain ⟨_, A, c, hv, hc, _⟩ := h.rd
  exact ⟨A, c, hv, hc⟩
theorem vals_app (its : List It) (it : It) : vals (its ++ [it]) = vals its ++ [it.v, it.u] := by simp [vals]

theorem Kst.lt {w : World} {N p : Nat} {Lv Wv : Value} {its : List It} (h : Kst w N p Lv Wv its) : ∀ z ∈ pcs p Lv Wv its, ∀ k, z.ownBlock = some k → k < w.heap.size := by
  intro z hz k hk
  simp only [pcs, List.mem_cons, vals, List.mem_flatMap] at hz
  rcases hz with rfl | rfl | rfl | ⟨it, hit, hz⟩
  · simp [pv, Value.ownBlock] at hk; subst hk; exact h.var.lt
  · exact h.L.lt k hk
  · exact h.W.lt k hk
  · have ho := h.own it hit
    simp at hz
    rcases hz with rfl | rfl
    · exact Ow.lt ho.1 k hk
    · exact Ow.lt ho.2 k hk
/-- The block of v' is that of v, or one between two bounds. -/
def Cat (v v' : Value) (lo hi : Nat) : Prop := ∀ k, v'.ownBlock = some k → v.ownBlock = some k ∨ (lo ≤ k ∧ k < hi)
theorem Cat.sep {v v' z : Value} {lo hi : Nat} (h : Cat v v' lo hi) (hs : Sep z v) (hz : ∀ k, z.ownBlock = some k → k < lo ∨ hi ≤ k) : Sep z v' := by
  intro k hk hv
  rcases h k hv with e | ⟨e1, e2⟩
  · exact hs k hk e
  · have := hz k hk; omega
/-- What Keep leaves, from its pieces. -/
theorem Kst.keep {w w' : World} {N p : Nat} {Lv Wv L1 W1 : Value} {its : List It} {x c : Value} {l : List Int} {s1 s2 s3 : Nat} (hk : Kst w N p Lv Wv its) (hx : OwB w x l) (hxl : l.length ≤ 140737488350000) (hxf : From N x)
    (hxc : Clr (pcs p Lv Wv its) x) (hfr : Fr (Tb p Lv Wv) w w') (hvar : Var w' p 39 #[L1, W1])
    (hL : Ow w' 23 1 L1 (its.length + 1) (its.map (·.v) ++ [x])) (hW : Ow w' 23 1 W1 (its.length + 1) (its.map (·.u) ++ [c])) (hc : OwB w' c l)
    (c1 : Cat Lv L1 w.heap.size s1) (c2 : Cat (.slice none 0 0) c s1 s2) (c3 : Cat Wv W1 s2 s3) (h1 : w.heap.size ≤ s1) (h2 : s1 ≤ s2) (hNp : N ≤ w.heap.size) :
    Kst w' N p L1 W1 (its ++ [⟨x, c, l, l⟩]) ∧
      ∀ y, Clr (pcs p Lv Wv its) y → Sep x y → (∀ k, y.ownBlock = some k → k < w.heap.size) → Clr (pcs p L1 W1 (its ++ [⟨x, c, l, l⟩])) y := by
  have hlt := hk.lt
  have hxlt := Ow.lt hx
  have hsp := hk.sep
  simp only [pcs, List.pairwise_cons] at hsp
  obtain ⟨hp1, hp2, hp3, hp4⟩ := hsp
  have hmem : ∀ z ∈ vals its, z ∈ pcs p Lv Wv its := fun z hz => by simp [pcs, hz]
  have mp : pv p ∈ pcs p Lv Wv its := by simp [pcs]
  have mL : Lv ∈ pcs p Lv Wv its := by simp [pcs]
  have mW : Wv ∈ pcs p Lv Wv its := by simp [pcs]
  have hcn : ∀ z, Sep z (.slice none 0 0) := fun z => Sep.nil z 0 0
  have hlo : ∀ z ∈ pcs p Lv Wv its, ∀ k, z.ownBlock = some k → k < w.heap.size ∨ s1 ≤ k := fun z hz k hk => .inl (hlt z hz k hk)
  have hlo1 : ∀ z ∈ pcs p Lv Wv its, ∀ k, z.ownBlock = some k → k < s1 ∨ s2 ≤ k := fun z hz k hk => .inl (Nat.lt_of_lt_of_le (hlt z hz k hk) h1)
  have hlo2 : ∀ z ∈ pcs p Lv Wv its, ∀ k, z.ownBlock = some k → k < s2 ∨ s3 ≤ k := fun z hz k hk => .inl (Nat.lt_of_lt_of_le (hlt z hz k hk) (Nat.le_trans h1 h2))
  have hxlo : ∀ k, x.ownBlock = some k → k < w.heap.size ∨ s1 ≤ k := fun k hk => .inl (hxlt k hk)
  have hxlo1 : ∀ k, x.ownBlock = some k → k < s1 ∨ s2 ≤ k := fun k hk => .inl (Nat.lt_of_lt_of_le (hxlt k hk) h1)
  have hxlo2 : ∀ k, x.ownBlock = some k → k < s2 ∨ s3 ≤ k := fun k hk => .inl (Nat.lt_of_lt_of_le (hxlt k hk) (Nat.le_trans h1 h2))
  have hLW : Sep L1 W1 := by
    refine c3.sep (Sep.symm (c1.sep (Sep.symm (hp2 Wv (by simp))) (hlo _ mW))) fun k hk => ?_
    rcases c1 k hk with e | ⟨e1, e2⟩
    · exact hlo2 _ mL k e
    · left; omega
  have hLz : ∀ z ∈ vals its, Sep L1 z := fun z hz => Sep.symm (c1.sep (Sep.symm (hp2 z (by simp [hz]))) (hlo z (hmem z hz)))
  have hWz : ∀ z ∈ vals its, Sep W1 z := fun z hz => Sep.symm (c3.sep (Sep.symm (hp3 z hz)) (hlo2 z (hmem z hz)))
  have hLx : Sep L1 x := Sep.symm (c1.sep (Sep.symm (hxc _ mL)) hxlo)
  have hWx : Sep W1 x := Sep.symm (c3.sep (Sep.symm (hxc _ mW)) hxlo2)
  have hLc : Sep L1 c := c2.sep (hcn _) fun k hk => by
    rcases c1 k hk with e | ⟨e1, e2⟩
    · exact hlo1 _ mL k e
    · left; omega
  have hWc : Sep W1 c := c2.sep (hcn _) fun k hk => by
    rcases c3 k hk with e | ⟨e1, e2⟩
    · exact hlo1 _ mW k e
    · right; omega
  have hpn : ∀ z, z ∈ pcs p L1 W1 (its ++ [⟨x, c, l, l⟩]) ↔ z = pv p ∨ z = L1 ∨ z = W1 ∨ z ∈ vals its ∨ z = x ∨ z = c := by
    intro z; simp [pcs, vals_app]
  refine ⟨⟨hvar, by simpa using hL, by simpa using hW, ?_, ?_, ?_, ?_⟩, ?_⟩
  · intro it hit
    rcases List.mem_append.1 hit with h | h
    · have ho := hk.own it h
      have hv : it.v ∈ vals its := by simp only [vals, List.mem_flatMap]; exact ⟨it, h, by simp⟩
      have hu : it.u ∈ vals its := by simp only [vals, List.mem_flatMap]; exact ⟨it, h, by simp⟩
      have hoff : ∀ z ∈ vals its, Off (Tb p Lv Wv) z := by
        intro z hz k hkz ht
        rcases ht with rfl | ht | ht
        · exact hp1 z (by simp [hz]) k (by simp [pv, Value.ownBlock]) hkz
        · exact hp2 z (by simp [hz]) k ht hkz
        · exact hp3 z hz k ht hkz
      exact ⟨ho.1.fr hfr (hoff _ hv), ho.2.fr hfr (hoff _ hu)⟩
    · simp only [List.mem_singleton] at h
      subst h
      exact ⟨hx.fr hfr hxc.off, hc⟩
  · intro it hit
    rcases List.mem_append.1 hit with h | h
    · exact hk.small it h
    · simp only [List.mem_singleton] at h
      subst h
      exact ⟨hxl, hxl⟩
  · simp only [pcs, vals_app, List.pairwise_cons, List.pairwise_append]
    refine ⟨?_, ?_, ?_, hp4, ?_, ?_⟩
    · intro z hz
      simp only [List.mem_cons, List.mem_append, List.not_mem_nil, or_false] at hz
      rcases hz with rfl | rfl | hz | rfl | rfl
      · exact c1.sep (hp1 Lv (by simp)) (hlo _ mp)
      · exact c3.sep (hp1 Wv (by simp)) (hlo2 _ mp)
      · exact hp1 z (by simp [hz])
      · exact hxc _ mp
      · exact c2.sep (hcn _) (hlo1 _ mp)
    · intro z hz
      simp only [List.mem_cons, List.mem_append, List.not_mem_nil, or_false] at hz
      rcases hz with rfl | hz | rfl | rfl
      · exact hLW
      · exact hLz z hz
      · exact hLx
      · exact hLc
    · intro z hz
      simp only [List.mem_cons, List.mem_append, List.not_mem_nil, or_false] at hz
      rcases hz with hz | rfl | rfl
      · exact hWz z hz
      · exact hWx
      · exact hWc
    · refine ⟨fun z hz => ?_, by simp⟩
      simp only [List.mem_singleton] at hz
      subst hz
      exact c2.sep (hcn _) hxlo1
    · intro z hz y hy
      simp only [List.mem_cons, List.not_mem_nil, or_false] at hy
      rcases hy with rfl | rfl
      · exact hxc z (hmem z hz)
      · exact c2.sep (hcn _) (hlo1 z (hmem z hz))
  · intro z hz
    rcases (hpn z).1 hz with rfl | rfl | rfl | hz | rfl | rfl
    · exact hk.frm _ mp
    · intro k hk'
      rcases c1 k hk' with e | e
      · exact hk.frm _ mL k e
      · omega
    · intro k hk'
      rcases c3 k hk' with e | e
      · exact hk.frm _ mW k e
      · omega
    · exact hk.frm z (hmem z hz)
    · exact hxf
    · intro k hk'
      rcases c2 k hk' with e | e
      · simp [Value.ownBlock] at e
      · omega
  · intro y hy hxy hlty z hz
    have hy1 : ∀ k, y.ownBlock = some k → k < w.heap.size ∨ s1 ≤ k := fun k hk => .inl (hlty k hk)
    have hy2 : ∀ k, y.ownBlock = some k → k < s1 ∨ s2 ≤ k := fun k hk => .inl (Nat.lt_of_lt_of_le (hlty k hk) h1)
    have hy3 : ∀ k, y.ownBlock = some k → k < s2 ∨ s3 ≤ k := fun k hk => .inl (Nat.lt_of_lt_of_le (hlty k hk) (Nat.le_trans h1 h2))
    rcases (hpn z).1 hz with rfl | rfl | rfl | hz | rfl | rfl
    · exact hy _ mp
    · exact Sep.symm (c1.sep (Sep.symm (hy _ mL)) hy1)
    · exact Sep.symm (c3.sep (Sep.symm (hy _ mW)) hy3)
    · exact hy z (hmem z hz)
    · exact hxy
    · exact Sep.symm (c2.sep (hcn _) hy2)

set_option maxHeartbeats 2000000 in
set_option maxRecDepth 100000 in
theorem Keep_ok (w : World) (N p : Nat) (Lv Wv : Value) (its : List It) (x : Value) (l : List Int) (hk : Kst w N p Lv Wv its) (hx : OwB w x l) (hxl : l.length ≤ 140737488350000) (hxf : From N x) (hxc : Clr (pcs p Lv Wv its) x) (hn : its.length ≤ 1000) :
    Calls Try.prog 29 #[.pointer (some ⟨p, 0, none⟩), x] w fun e w' => e = .returned (.tuple #[]) ∧ ∃ Lv' Wv' c, Kst w' N p Lv' Wv' (its ++ [⟨x, c, l, l⟩]) ∧ Fr (Tb p Lv Wv) w w' ∧
      ∀ y, Clr (pcs p Lv Wv its) y → Sep x y → (∀ k, y.ownBlock = some k → k < w.heap.size) → Clr (pcs p Lv' Wv' (its ++ [⟨x, c, l, l⟩])) y := by
  obtain ⟨Al, cl, hLv, hcl⟩ := hk.L.shape
  obtain ⟨Aw, cw, hWv, hcw⟩ := hk.W.shape
  obtain ⟨Ax, cx, hxs, hcx⟩ := hx.rd.shape
  have HK := Lib.hid hk
  have HX := Lib.hid hx
  have hvar := hk.var
  have hL := hk.L
  have hW := hk.W
  have hc := hvar.cell
  have hz := hvar.frozen
  have hpL : Lv.ownBlock ≠ some p := by
    have h := hk.sep
    simp only [pcs, List.pairwise_cons] at h
    intro e
    exact h.1 Lv (by simp) p rfl e
  have hpW : Wv.ownBlock ≠ some p := by
    have h := hk.sep
    simp only [pcs, List.pairwise_cons] at h
    intro e
    exact h.1 Wv (by simp) p rfl e
  have hSLW : Sep Lv Wv := by
    have h := hk.sep
    simp only [pcs, List.pairwise_cons] at h
    exact h.2.1 Wv (by simp)
  have HC := Lib.hid hxc
  clear hk hx hxc
  subst hLv hWv hxs
  go_enter Try.func29, Try.ntmps29
  go_wp2_with (at_builtin; refine appS rfl (.tmp 8) (.tmp 10) rfl rfl rfl (hL.alloc _) (Rd.one w _ _) (by simp [Value.oneCell']) (by omega) ?_; intro v1 w1 ho1 hg1 hat1; obtain ⟨A1, c1, rfl, hc1⟩ := ho1.shape; have hv1 := (hvar.alloc (.cells #[.slice Ax l.length cx] 23)).grown hg1 hpL; have hcv1 := hv1.cell; have hzv1 := hv1.frozen; obtain ⟨x1, hx1⟩ : ∃ x1, w1.setCell ⟨p, 0, none⟩ (.slice A1 (its.length + 1) c1) = x1 := ⟨_, rfl⟩)
  clear hc hz hcv1 hzv1
  have hvx := hv1.set 0 (.slice A1 (its.length + 1) c1)
  have hA1p : (Value.slice A1 (its.length + 1) c1).ownBlock ≠ some p := by
    rcases hat1 with e | e
    · rw [e]; exact hpL
    · rw [e]; have := hvar.lt; simp; omega
  have hLx := ho1.set_var hA1p 0 (.slice A1 (its.length + 1) c1)
  have hFx : Fr (Tb p (Value.slice Al its.length cl) (Value.slice Aw its.length cw)) w x1 := by
    have h1 : Fr (Tb p (Value.slice Al its.length cl) (Value.slice Aw its.length cw)) w w1 := (Fr.ext ((Ext.refl w).alloc _) _).trans (Fr.grown hg1 fun k hk => .inr (.inl hk))
    refine h1.trans ?_
    rw [← hx1]
    exact Fr.grown (grownBy_set w1 p 0 _) fun k hk => by cases hk; exact .inl rfl
  have hWx : Ow x1 23 1 (.slice Aw its.length cw) its.length (its.map (·.u)) := by
    have h1 := (hW.alloc (.cells #[.slice Ax l.length cx] 23)).other hg1 hSLW.symm
    rw [← hx1]
    exact h1.set_var hpW 0 _
  have hsx : w.heap.size + 1 ≤ x1.heap.size := by
    have := hg1.size
    rw [← hx1]; simpa using this
  rw [hx1] at hvx hLx
  have hxx : OwB x1 (.slice Ax l.length cx) l := HX.out.fr hFx HC.out.off
  simp only [List.size_toArray, List.length_cons, List.length_nil, Array.setIfInBounds] at hvx
  clear hx1 hv1 hg1 ho1
  have hcx1 := hvx.cell
  have hvx' : Var x1 p 39 #[.slice A1 (its.length + 1) c1, .slice Aw its.length cw] := hvx
  have hpx := hvx'.lt
  have HW := Lib.hid hWx
  have HV := Lib.hid hvx'
  have HL := Lib.hid hLx
  have HF := Lib.hid hFx
  have HX2 := Lib.hid hxx
  clear hWx hvx hvx' hLx hFx hxx hL hW hvar
  go_region_law (first
    | (refine stepS rfl (.tmp 18) (.tmp 21) rfl rfl rfl (HW.out.ext (((Ext.refl _).drew.trans he2).alloc _)) (Rd.one w2 _ _) (by simp [Value.oneCell']) (by omega) ?_; intro v4 w4 ho4 hg4 hat4; obtain ⟨A4, c4, rfl, hc4⟩ := ho4.shape; have hv4 := (HV.out.ext (((Ext.refl x1).drew.trans he2).alloc _)).grown hg4 hpW; have hcv4 := hv4.cell; have hzv4 := hv4.frozen)
    | (go_simp; go_at_call 44; refine (copied_ok _ l _ (HX2.out.rd.ext (Ext.refl _).drew) (by omega)).mono ?_; rintro e0 w2 ⟨c, rfl, ho2, hf2, he2⟩; obtain ⟨Ac, cc, rfl, hcc⟩ := ho2.rd.shape; have hc2 := fun o => ((Ext.refl x1).drew.trans he2).cells _ o hpx |>.trans (hcx1 o); have hc2a := (HV.out.ext (((Ext.refl x1).drew.trans he2).alloc (.cells #[.slice Ac l.length cc] 23))).cell))
  all_goals
    have hg5 := grownBy_set w4 p 1 (.slice A4 (its.length + 1) c4)
    have hv5 := hv4.set 1 (.slice A4 (its.length + 1) c4)
    simp only [List.size_toArray, List.length_cons, List.length_nil, Array.setIfInBounds] at hv5
    have hE2 : Ext x1 (w2.alloc (.cells #[.slice Ac l.length cc] 23)) := ((Ext.refl x1).drew.trans he2).alloc _
    have hs2 : x1.heap.size ≤ w2.heap.size := he2.size
    have hpw : p < w.heap.size := HK.out.var.lt
    have cL : Cat (.slice Al its.length cl) (.slice A1 (its.length + 1) c1) w.heap.size x1.heap.size := by
      intro k hk
      have hlt := HL.out.lt k hk
      rcases hat1 with e | e
      · exact .inl (e ▸ hk)
      · right; rw [hk] at e; simp at e; omega
    have cc' : Cat (.slice none 0 0) (.slice Ac l.length cc) x1.heap.size w2.heap.size := by
      intro k hk
      exact .inr ⟨hf2 k hk, Ow.lt ho2 k hk⟩
    have cW : Cat (.slice Aw its.length cw) (.slice A4 (its.length + 1) c4) w2.heap.size w4.heap.size := by
      intro k hk
      have hlt := ho4.lt k hk
      rcases hat4 with e | e
      · exact .inl (e ▸ hk)
      · right; rw [hk] at e; simp at e; omega
    have hWlt : ∀ k, (Value.slice Aw its.length cw).ownBlock = some k → k < w.heap.size := HK.out.W.lt
    have hLW : Sep (.slice A1 (its.length + 1) c1) (.slice Aw its.length cw) := Sep.symm (cL.sep hSLW.symm fun k hk => .inl (hWlt k hk))
    have hcW : Sep (.slice Ac l.length cc) (.slice Aw its.length cw) := Sep.symm (cc'.sep (Sep.nil _ _ _) fun k hk => .inl (by have := hWlt k hk; omega))
    have hcp : (Value.slice Ac l.length cc).ownBlock ≠ some p := fun e => by
      rcases cc' p e with h | h
      · simp [Value.ownBlock] at h
      · omega
    have hA4p : (Value.slice A4 (its.length + 1) c4).ownBlock ≠ some p := fun e => by
      rcases cW p e with h | h
      · exact hpW h
      · omega
    have hL5 := ((HL.out.ext hE2).other hg4 hLW).set_var hA1p 1 (.slice A4 (its.length + 1) c4)
    have hW5 := ho4.set_var hA4p 1 (.slice A4 (its.length + 1) c4)
    have hc5 := Ow.set_var ((ho2.alloc (.cells #[.slice Ac l.length cc] 23)).other hg4 hcW) hcp 1 (.slice A4 (its.length + 1) c4)
    have hfr : Fr (Tb p (.slice Al its.length cl) (.slice Aw its.length cw)) w (w4.setCell ⟨p, 1, none⟩ (.slice A4 (its.length + 1) c4)) :=
      ((HF.out.trans (Fr.ext hE2 _)).trans (Fr.grown hg4 fun k hk => .inr (.inr hk))).trans (Fr.grown hg5 fun k hk => by cases hk; exact .inl rfl)
    have hfin := Kst.keep HK.out HX.out hxl hxf HC.out hfr hv5 hL5 hW5 hc5 cL cc' cW (by omega) hs2 (Nat.le_trans (HK.out.frm (pv p) (by simp [pcs]) p (by simp [pv, Value.ownBlock])) (Nat.le_of_lt hpw))
    go_end0
    exact ⟨rfl, _, _, _, hfin.1, hfr, hfin.2⟩

end Go.Proofs.Ytckhefkedkipeaa

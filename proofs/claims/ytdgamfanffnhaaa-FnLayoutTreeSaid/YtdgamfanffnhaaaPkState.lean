/-
  What PI's state says of the machine's state, and what it takes to go on from one to the next. No condition.
-/
import Derived.Test.YtdgamfanffnhaaaPkRel
import Derived.Control
set_option linter.unusedVariables false
set_option linter.unusedSimpArgs false
namespace Go.Proofs.Ytdgamfanffnhaaa.PI
open Go
inductive Pw {α β : Type} (r : α → β → Prop) : List α → List β → Prop
  | nil : Pw r [] []
  | cons {a b l m} : r a b → Pw r l m → Pw r (a :: l) (b :: m)
section
variable {α β : Type} {r s : α → β → Prop} {l : List α} {m : List β}
theorem Pw.mono (H : Pw r l m) (h : ∀ a b, r a b → s a b) : Pw s l m := by
  induction H with
  | nil => exact .nil
  | cons a _ ih => exact .cons (h _ _ a) ih
theorem Pw.len (H : Pw r l m) : l.length = m.length := by
  induction H with
  | nil => rfl
  | cons _ _ ih => simp [ih]
theorem Pw.at (H : Pw r l m) {i : Nat} {a : α} (h : l[i]? = some a) : ∃ b, m[i]? = some b ∧ r a b := by
  induction H generalizing i with
  | nil => simp at h
  | cons x _ ih =>
    cases i with
    | zero => simp at h; subst h; exact ⟨_, by simp, x⟩
    | succ i => simp at h; obtain ⟨b, hb, hr⟩ := ih h; exact ⟨b, by simpa using hb, hr⟩
theorem Pw.of (hl : l.length = m.length) (h : ∀ (i : Nat) a b, l[i]? = some a → m[i]? = some b → r a b) : Pw r l m := by
  induction l generalizing m with
  | nil => cases m with
    | nil => exact .nil
    | cons => simp at hl
  | cons a l ih => cases m with
    | nil => simp at hl
    | cons b m => exact .cons (h 0 a b (by simp) (by simp)) (ih (by simpa using hl) fun i a b x y => h (i + 1) a b (by simpa using x) (by simpa using y))
theorem Pw.drop (H : Pw r l m) (n : Nat) : Pw r (l.drop n) (m.drop n) := by
  induction H generalizing n with
  | nil => simpa using Pw.nil
  | cons x t ih => cases n with
    | zero => exact .cons x t
    | succ n => exact ih n
theorem Pw.take (H : Pw r l m) (n : Nat) : Pw r (l.take n) (m.take n) := by
  induction H generalizing n with
  | nil => simpa using Pw.nil
  | cons x t ih => cases n with
    | zero => exact .nil
    | succ n => exact .cons x (ih n)
theorem Pw.cut (H : Pw r l m) (o n : Nat) : Pw r (PI.cut o n l) (PI.cut o n m) := (H.drop o).take n
theorem Pw.app {l' : List α} {m' : List β} (H : Pw r l m) (K : Pw r l' m') : Pw r (l ++ l') (m ++ m') := by
  induction H with
  | nil => exact K
  | cons x _ ih => exact .cons x ih
end
structure Gk where
  addr : Option Addr
  cap : Nat
  own : Nat → Prop
abbrev Rt := Nat → Option Root
abbrev Gm := Nat → Gk
def rowsAt : Option Root → Option (List (List C))
  | some (.row _ _ rows foc) => some (eff rows foc)
  | some (.frow rows) => some rows
  | _ => none
def Spot (rows : List (List C)) (g : Gk) (i off : Nat) (ad : Addr) : Prop :=
  ∃ b sz, (∀ el ∈ rows, el.length = sz) ∧ g.addr = some ⟨b, 0, none⟩ ∧ ad = ⟨b, i * sz + off, none⟩
def NSpot (h : Hp) (rows : List (List C)) (g : Gk) (i j : Nat) (v : Value) : Prop :=
  (∃ p n c, v = .slice p n c) ∧ i < rows.length ∧ ∃ b sz arr elem, (∀ el ∈ rows, el.length = sz) ∧ j < sz ∧ g.addr = some ⟨b, 0, none⟩ ∧ h b = some (.cells arr elem (0, 0)) ∧ arr.toList[i * sz + j]? = some v
section
variable (h : Hp) (R : Nat → Prop) (rt : Rt) (γ : Gm)
def Leaf : C → Value → Prop
  | .ref k len, v => ∃ a cap, v = .slice a len cap ∧ (len ≤ cap ∧ (0 < len → a.isSome)) ∧ (rt k).isSome ∧ ∀ rows, rowsAt (rt k) = some rows → len ≤ rows.length ∧ (len = rows.length → a = (γ k).addr ∧ cap = (γ k).cap)
  | .view k off len tot, v => ∃ a cap, v = .slice a len cap ∧ len ≤ cap ∧ off + len ≤ tot ∧ (rt k).isSome ∧ ∀ rows, rowsAt (rt k) = some rows → tot ≤ rows.length ∧ (tot = rows.length → 0 < len → ∃ ad, a = some ad ∧ Spot rows (γ k) off 0 ad)
  | .eptr k tot i off, v => ∃ ad, v = .pointer (some ad) ∧ i < tot ∧ (rt k).isSome ∧ ∀ rows, rowsAt (rt k) = some rows → tot ≤ rows.length ∧ (tot = rows.length → Spot rows (γ k) i off ad)
  | .nref k vs i j len, v => ∃ a cap, v = .slice a len cap ∧ len ≤ cap ∧ (rt k).isSome ∧ ∀ p vs' rows foc, rt k = some (.row p vs' rows foc) → vs ≤ vs' ∧ (vs = vs' → NSpot h (eff rows foc) (γ k) i j v)
  | .bptr k off, v => ∃ ad, v = .pointer (some ad) ∧ (rt k).isSome ∧ ∀ p cells, rt k = some (.box p cells) → ∃ b, (γ k).addr = some ⟨b, 0, none⟩ ∧ ad = ⟨b, off, none⟩
  | c, v => Ro h R [c] [v]
def VR1 : V → Value → Prop
  | .one c, v => Leaf h R rt γ c v
  | .agg cs, v => ∃ arr : Array Value, v = .agg arr ∧ Pw (Leaf h R rt γ) cs arr.toList
  | .tup _, _ => False
def VR : V → Value → Prop
  | .tup vs, v => ∃ arr : Array Value, v = .tuple arr ∧ Pw (VR1 h R rt γ) vs arr.toList
  | x, v => VR1 h R rt γ x v
def RootR (g : Gk) : Root → Prop
  | .box _ cells => ∃ b arr elem, g.addr = some ⟨b, 0, none⟩ ∧ g.own b ∧ (∀ x, g.own x → x = b) ∧ h b = some (.cells arr elem (0, 0)) ∧ Pw (Leaf h R rt γ) cells arr.toList
  | .row _ _ rows foc => Own h R g.own [.sl (eff rows foc)] [.slice g.addr (eff rows foc).length g.cap] ∧ (∀ j el, foc = some (j, el) → j < rows.length)
  | .frow rows => Ro h R [.rsl rows] [.slice g.addr rows.length g.cap] ∧ (rows ≠ [] → ∃ b, g.addr = some ⟨b, 0, none⟩)
  | .dead => True
end
def Owns (g : Gk) (b : Nat) : Root → Prop
  | .box .. => g.own b
  | .row .. => g.own b
  | _ => False
def RowExt (rows rows' : List (List C)) (g g' : Gk) : Prop :=
  rows.length ≤ rows'.length ∧ (rows.length = rows'.length → g'.addr = g.addr ∧ g'.cap = g.cap ∧ ∀ sz, (∀ el ∈ rows, el.length = sz) → ∀ el ∈ rows', el.length = sz)
theorem RowExt.refl (rows : List (List C)) (g : Gk) : RowExt rows rows g g := ⟨Nat.le_refl _, fun _ => ⟨rfl, rfl, fun _ k => k⟩⟩
def Ext (h h' : Hp) (g g' : Gk) : Root → Root → Prop
  | .box .., .box .. => g'.addr = g.addr
  | .row _ vs rows foc, .row _ vs' rows' foc' => RowExt (eff rows foc) (eff rows' foc') g g' ∧ vs ≤ vs' ∧
      (vs = vs' → ∀ i j v, NSpot h (eff rows foc) g i j v → NSpot h' (eff rows' foc') g' i j v)
  | .row _ _ rows foc, .frow rows' => RowExt (eff rows foc) rows' g g'
  | .frow rows, .frow rows' => RowExt rows rows' g g'
  | _, .dead => True
  | _, _ => False
def ExtAll (h h' : Hp) (rt rt' : Rt) (γ γ' : Gm) : Prop := ∀ k r, rt k = some r → ∃ r', rt' k = some r' ∧ Ext h h' (γ k) (γ' k) r r'
section
variable {h h' : Hp} {R R' : Nat → Prop} {rt rt' : Rt} {γ γ' : Gm}
theorem ExtAll.isSome (E : ExtAll h h' rt rt' γ γ') {k : Nat} (hk : (rt k).isSome) : (rt' k).isSome := by
  cases e : rt k with
  | none => simp [e] at hk
  | some r => obtain ⟨r', h', _⟩ := E k r e; simp [h']
theorem ExtAll.rows (E : ExtAll h h' rt rt' γ γ') {k : Nat} (hk : (rt k).isSome) {rows' : List (List C)} (hr : rowsAt (rt' k) = some rows') :
    ∃ rows, rowsAt (rt k) = some rows ∧ RowExt rows rows' (γ k) (γ' k) := by
  cases e : rt k with
  | none => simp [e] at hk
  | some r =>
    obtain ⟨r', e', x⟩ := E k r e
    rw [e'] at hr
    cases r with
    | box p c => cases r' <;> simp_all [rowsAt, Ext]
    | row p v rows foc =>
      cases r' with
      | row p' v' rows2 foc' => simp only [rowsAt, Option.some.injEq] at hr; subst hr; exact ⟨_, rfl, x.1⟩
      | frow rows2 => simp only [rowsAt, Option.some.injEq] at hr; subst hr; exact ⟨_, rfl, x⟩
      | box => simp [rowsAt] at hr
      | dead => simp [rowsAt] at hr
    | frow rows =>
      cases r' with
      | frow rows2 => simp only [rowsAt, Option.some.injEq] at hr; subst hr; exact ⟨_, rfl, x⟩
      | row => simp [Ext] at x
      | box => simp [rowsAt] at hr
      | dead => simp [rowsAt] at hr
    | dead => cases r' <;> simp_all [rowsAt, Ext]
theorem Spot.ext {rows rows' : List (List C)} {g g' : Gk} {i off : Nat} {ad : Addr} (x : RowExt rows rows' g g') (hl : rows.length = rows'.length) (H : Spot rows g i off ad) : Spot rows' g' i off ad := by
  obtain ⟨b, sz, u, a, e⟩ := H
  obtain ⟨ha, _, hu⟩ := x.2 hl
  exact ⟨b, sz, hu sz u, ha.trans a, e⟩
theorem Leaf.mono (hR : ∀ b, R b → R' b) (hh : ∀ b, R b → h' b = h b) (E : ExtAll h h' rt rt' γ γ') {c : C} {v : Value} (H : Leaf h R rt γ c v) : Leaf h' R' rt' γ' c v := by
  cases c <;> simp only [Leaf] at H ⊢ <;> try exact H.mono hR hh
  case ref k len =>
    obtain ⟨a, cap, rfl, hc, hs, f⟩ := H
    refine ⟨a, cap, rfl, hc, E.isSome hs, fun rows' hr => ?_⟩
    obtain ⟨rows, hr0, x⟩ := E.rows hs hr
    obtain ⟨h1, h2⟩ := f rows hr0
    refine ⟨Nat.le_trans h1 x.1, fun hl => ?_⟩
    have hl1 : len = rows.length := Nat.le_antisymm h1 (hl ▸ x.1)
    obtain ⟨ha, hb, _⟩ := x.2 (hl1 ▸ hl)
    obtain ⟨k1, k2⟩ := h2 hl1
    exact ⟨k1.trans ha.symm, k2.trans hb.symm⟩
  case nref k vs i j len =>
    obtain ⟨a, cap, rfl, hc, hs, f⟩ := H
    refine ⟨a, cap, rfl, hc, E.isSome hs, fun p vs' rows' foc' hr => ?_⟩
    cases e : rt k with
    | none => simp [e] at hs
    | some r =>
      obtain ⟨r', e', x⟩ := E k r e
      rw [hr] at e'; injection e' with e'; subst e'
      cases r with
      | box => simp [Ext] at x
      | frow => simp [Ext] at x
      | dead => simp [Ext] at x
      | row p0 v0 rows0 foc0 =>
        obtain ⟨_, x2, x3⟩ := x
        obtain ⟨f1, f2⟩ := f _ _ _ _ e
        refine ⟨Nat.le_trans f1 x2, fun hv => ?_⟩
        have h0 : vs = v0 := Nat.le_antisymm f1 (hv ▸ x2)
        exact x3 (h0 ▸ hv) _ _ _ (f2 h0)
  case view k off len tot =>
    obtain ⟨a, cap, rfl, hc, ho, hs, f⟩ := H
    refine ⟨a, cap, rfl, hc, ho, E.isSome hs, fun rows' hr => ?_⟩
    obtain ⟨rows, hr0, x⟩ := E.rows hs hr
    obtain ⟨h1, h2⟩ := f rows hr0
    refine ⟨Nat.le_trans h1 x.1, fun hl hp => ?_⟩
    have hl1 : tot = rows.length := Nat.le_antisymm h1 (hl ▸ x.1)
    obtain ⟨ad, e, s⟩ := h2 hl1 hp
    exact ⟨ad, e, s.ext x (hl1 ▸ hl)⟩
  case bptr k off =>
    obtain ⟨ad, rfl, hs, f⟩ := H
    refine ⟨ad, rfl, E.isSome hs, fun p cells hr => ?_⟩
    cases e : rt k with
    | none => simp [e] at hs
    | some r =>
      obtain ⟨r', e', x⟩ := E k r e
      rw [hr] at e'; injection e' with e'; subst e'
      cases r with
      | box p0 c0 => obtain ⟨b, h1, h2⟩ := f _ _ e; exact ⟨b, Eq.trans x h1, h2⟩
      | frow => simp [Ext] at x
      | dead => simp [Ext] at x
      | row => simp [Ext] at x
  case eptr k tot i off =>
    obtain ⟨ad, rfl, hi, hs, f⟩ := H
    refine ⟨ad, rfl, hi, E.isSome hs, fun rows' hr => ?_⟩
    obtain ⟨rows, hr0, x⟩ := E.rows hs hr
    obtain ⟨h1, h2⟩ := f rows hr0
    refine ⟨Nat.le_trans h1 x.1, fun hl => ?_⟩
    have hl1 : tot = rows.length := Nat.le_antisymm h1 (hl ▸ x.1)
    exact (h2 hl1).ext x (hl1 ▸ hl)
theorem VR1.mono (hR : ∀ b, R b → R' b) (hh : ∀ b, R b → h' b = h b) (E : ExtAll h h' rt rt' γ γ') {x : V} {v : Value} (H : VR1 h R rt γ x v) : VR1 h' R' rt' γ' x v := by
  cases x with
  | one c => exact Leaf.mono hR hh E H
  | agg cs => obtain ⟨arr, e, p⟩ := H; exact ⟨arr, e, p.mono fun _ _ k => Leaf.mono hR hh E k⟩
  | tup vs => exact H
theorem VR.mono (hR : ∀ b, R b → R' b) (hh : ∀ b, R b → h' b = h b) (E : ExtAll h h' rt rt' γ γ') {x : V} {v : Value} (H : VR h R rt γ x v) : VR h' R' rt' γ' x v := by
  cases x with
  | one c => exact VR1.mono (x := .one c) hR hh E H
  | agg cs => exact VR1.mono (x := .agg cs) hR hh E H
  | tup vs => obtain ⟨arr, e, p⟩ := H; exact ⟨arr, e, p.mono fun _ _ k => VR1.mono hR hh E k⟩
theorem RootR.mono (hR : ∀ b, R b → R' b) (hh : ∀ b, R b → h' b = h b) (E : ExtAll h h' rt rt' γ γ') {g : Gk} {r : Root} (H : RootR h R rt γ g r) (ho : ∀ b, Owns g b r → h' b = h b) : RootR h' R' rt' γ' g r := by
  cases r with
  | box p cells =>
    obtain ⟨b, arr, elem, a, o, o', hb, l⟩ := H
    exact ⟨b, arr, elem, a, o, o', (ho b o).trans hb, l.mono fun _ _ k => Leaf.mono hR hh E k⟩
  | row p v rows foc => exact ⟨H.1.mono hR hh ho (fun _ k => k), H.2⟩
  | frow rows => exact ⟨H.1.mono hR hh, H.2⟩
  | dead => trivial
theorem Ext.refl (g : Gk) (r : Root) (hh : ∀ p v rows foc i j x, r = .row p v rows foc → NSpot h (eff rows foc) g i j x → NSpot h' (eff rows foc) g i j x) : Ext h h' g g r r := by
  cases r with
  | box => rfl
  | row p v rows foc => exact ⟨RowExt.refl _ _, Nat.le_refl _, fun _ i j x => hh _ _ _ _ i j x rfl⟩
  | frow rows => exact RowExt.refl _ _
  | dead => trivial
end
inductive Par where
  | row (a : Option Addr) (cap : Nat) (rows : List (List C))
  | box (b : Nat) (arr : Array Value)
structure Ctx where
  w0 : World
  R0 : Nat → Prop
  PB : Nat → Prop
  par : Nat → Option Par
  fz : Bool
def ParR (h : Hp) (X : Ctx) (k : Nat) (g : Gk) : Root → Prop
  | .row true _ rows foc => ∃ rows0, X.par k = some (.row g.addr g.cap rows0) ∧ rows0.length = (eff rows foc).length ∧ ∀ sz, (∀ el ∈ rows0, el.length = sz) → ∀ el ∈ eff rows foc, el.length = sz
  | .box true cells => ∃ b arr0 arr elem, X.par k = some (.box b arr0) ∧ g.addr = some ⟨b, 0, none⟩ ∧ h b = some (.cells arr elem (0, 0)) ∧ arr.size = arr0.size ∧
      ∀ (j : Nat) (c : C), cells[j]? = some c → c.scalar = false → arr.toList[j]? = arr0.toList[j]?
  | _ => True
def Root.par : Root → Bool
  | .box p _ => p
  | .row p .. => p
  | _ => false
structure World.alike (w w' : World) : Prop where
  tape : w'.tape = w.tape
  os : w'.os = w.os
  output : w'.output = w.output
  size : w.heap.size ≤ w'.heap.size
theorem World.alike.refl (w : World) : World.alike w w := ⟨rfl, rfl, rfl, Nat.le_refl _⟩
theorem World.alike.trans {a b c : World} (x : World.alike a b) (y : World.alike b c) : World.alike a c :=
  ⟨y.tape.trans x.tape, y.os.trans x.os, y.output.trans x.output, Nat.le_trans x.size y.size⟩
structure Mem (X : Ctx) (rt : Rt) (w : World) (R : Nat → Prop) (γ : Gm) : Prop where
  root : ∀ k r, rt k = some r → RootR (hp w) R rt γ (γ k) r
  disj : ∀ k k' r r' b, k ≠ k' → rt k = some r → rt k' = some r' → Owns (γ k) b r → ¬ Owns (γ k') b r'
  ownR : ∀ k r b, rt k = some r → Owns (γ k) b r → ¬ R b
  ownLt : ∀ k r b, rt k = some r → Owns (γ k) b r → b < w.heap.size
  ownIn : ∀ k r b, rt k = some r → Owns (γ k) b r → X.w0.heap.size ≤ b ∨ (r.par = true ∧ X.PB b)
  rLt : ∀ b, R b → b < w.heap.size
  rIn : ∀ b, R b → X.R0 b ∨ X.w0.heap.size ≤ b
  r0 : ∀ b, X.R0 b → R b
  rSame : X.fz = false → ∀ b, R b → X.R0 b
  frame : ∀ b, b < X.w0.heap.size → ¬ X.PB b → hp w b = hp X.w0 b
  par : ∀ k r, rt k = some r → ParR (hp w) X k (γ k) r
  alike : World.alike X.w0 w
def EnvR (h : Hp) (R : Nat → Prop) (rt : Rt) (γ : Gm) (env : List (Nat × V)) (tmps : Array Value) : Prop :=
  ∀ n v, get env n = some v → ∃ x, tmps[n]? = some x ∧ VR h R rt γ v x
def Rel (X : Ctx) (N : Nat) (st : St) (a : Act) (w : World) : Prop :=
  ∃ R γ, Mem X (get st.roots) w R γ ∧ EnvR (hp w) R (get st.roots) γ st.env a.tmps ∧ a.defers = [] ∧ N ≤ a.tmps.size
end Go.Proofs.Ytdgamfanffnhaaa.PI

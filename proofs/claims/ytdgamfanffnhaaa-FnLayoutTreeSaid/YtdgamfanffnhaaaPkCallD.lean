/-
  Entries: what becomes of roots, many at once; roots that are born of what a call hands back or a function is handed. No condition.
-/
import Derived.Test.YtdgamfanffnhaaaPkCallC
set_option linter.unusedVariables false
set_option linter.unusedSimpArgs false
namespace Go.Proofs.Ytdgamfanffnhaaa.PI
open Go
structure Ent where
  k : Nat
  r : Root
  g : Gk
def upsOf (es : List Ent) : Ups := es.map fun e => (e.k, some e.r)
def gOf (γ : Gm) (es : List Ent) : Gm := fun k => match es.find? (fun e => e.k == k) with
  | some e => e.g
  | none => γ k
def Inst (es : List Ent) (rt : Rt) (γ : Gm) : Prop := ∀ e ∈ es, rt e.k = some e.r ∧ γ e.k = e.g
section
variable {P : Program} {X : Ctx} {rt : Rt} {w w' : World} {R R' : Nat → Prop} {γ γ' : Gm} {h h' : Hp}
theorem upsOf_keys (es : List Ent) : (upsOf es).map (·.1) = es.map (·.k) := by simp [upsOf]
theorem upsOf_append (a b : List Ent) : upsOf (a ++ b) = upsOf a ++ upsOf b := by simp [upsOf]
theorem distinct_nodup {l : List Nat} : distinct l = true ↔ l.Nodup := by
  induction l with
  | nil => simp [distinct]
  | cons a l ih => rw [distinct_cons, List.nodup_cons, ih]
theorem gOf_mem {es : List Ent} (hd : (es.map (·.k)).Nodup) {e : Ent} (he : e ∈ es) : gOf γ es e.k = e.g := by
  induction es with
  | nil => cases he
  | cons x es ih =>
    rw [List.map_cons, List.nodup_cons] at hd
    by_cases hx : x.k = e.k
    · rcases List.mem_cons.1 he with rfl | he
      · simp [gOf]
      · exact absurd (List.mem_map.2 ⟨e, he, hx.symm⟩) hd.1
    · rcases List.mem_cons.1 he with rfl | he
      · exact absurd rfl hx
      · have := ih hd.2 he
        rw [← this]; unfold gOf; rw [List.find?_cons]
        have hq : (x.k == e.k) = false := by simpa using hx
        rw [hq]
theorem gOf_none {es : List Ent} {k : Nat} (hk : k ∉ es.map (·.k)) : gOf γ es k = γ k := by
  have : es.find? (fun e => e.k == k) = none := by
    rw [List.find?_eq_none]; intro e he hq
    exact hk (List.mem_map.2 ⟨e, he, by simpa using hq⟩)
  simp [gOf, this]
theorem inst_upd {es : List Ent} (hd : (es.map (·.k)).Nodup) : Inst es (PI.upd rt (upsOf es)) (gOf γ es) := by
  intro e he
  refine ⟨?_, gOf_mem hd he⟩
  have : (e.k, some e.r) ∈ upsOf es := List.mem_map.2 ⟨e, he, rfl⟩
  exact upd_some (by rw [upsOf_keys, distinct_nodup]; exact hd) this
theorem Inst.left {a b : List Ent} (H : Inst (a ++ b) rt γ) : Inst a rt γ := fun e he => H e (List.mem_append.2 (.inl he))
theorem Inst.right {a b : List Ent} (H : Inst (a ++ b) rt γ) : Inst b rt γ := fun e he => H e (List.mem_append.2 (.inr he))
theorem Mem.ents (M : Mem X rt w R γ) {es : List Ent} (hd : (es.map (·.k)).Nodup) (al : World.alike w w')
    (heap : ∀ b, b < w.heap.size → hp w' b = hp w b ∨ ∃ e ∈ es, OwnedBy rt γ e.k b)
    (rmono : ∀ b, R b → R' b)
    (rsub : ∀ b, R' b → R b ∨ (X.fz = true ∧ X.w0.heap.size ≤ b ∧ b < w'.heap.size ∧ (w.heap.size ≤ b ∨ ∃ e ∈ es, OwnedBy rt γ e.k b)))
    (ext : ∀ e ∈ es, ∀ r, rt e.k = some r → Ext (hp w) (hp w') (γ e.k) e.g r e.r)
    (root : Inst es (PI.upd rt (upsOf es)) (gOf γ es) → ExtAll (hp w) (hp w') rt (PI.upd rt (upsOf es)) γ (gOf γ es) → ∀ e ∈ es, RootR (hp w') R' (PI.upd rt (upsOf es)) (gOf γ es) e.g e.r)
    (own : ∀ e ∈ es, ∀ b, Owns e.g b e.r → ¬ R' b ∧ b < w'.heap.size ∧ (X.w0.heap.size ≤ b ∨ (e.r.par = true ∧ X.PB b)) ∧ (w.heap.size ≤ b ∨ ∃ e' ∈ es, OwnedBy rt γ e'.k b))
    (disj : ∀ e ∈ es, ∀ e' ∈ es, e.k ≠ e'.k → ∀ b, Owns e.g b e.r → ¬ Owns e'.g b e'.r)
    (par : ∀ e ∈ es, ParR (hp w') X e.k e.g e.r) :
    Mem X (PI.upd rt (upsOf es)) w' R' (gOf γ es) ∧ ExtAll (hp w) (hp w') rt (PI.upd rt (upsOf es)) γ (gOf γ es) := by
  have hi := inst_upd (rt := rt) (γ := γ) hd
  have mem : ∀ k r, k ∈ es.map (·.k) → PI.upd rt (upsOf es) k = some r → ∃ e ∈ es, e.k = k ∧ e.r = r ∧ gOf γ es k = e.g := by
    intro k r hk hr
    obtain ⟨e, he, rfl⟩ := List.mem_map.1 hk
    obtain ⟨h1, h2⟩ := hi e he
    rw [h1] at hr; injection hr with hr
    exact ⟨e, he, rfl, hr, h2⟩
  refine M.upd (fun k => k ∈ es.map (·.k)) al (fun k hk => ⟨upd_none (by rw [upsOf_keys]; exact hk), gOf_none hk⟩) ?_ ?_ rmono ?_ ?_ ?_ ?_ ?_
  · intro k r hk hr
    obtain ⟨e, he, rfl⟩ := List.mem_map.1 hk
    obtain ⟨h1, h2⟩ := hi e he
    exact ⟨_, h1, h2 ▸ ext e he r hr⟩
  · intro b hb
    rcases heap b hb with q | ⟨e, he, r, hr, ho⟩
    · exact .inl q
    · exact .inr ⟨e.k, r, List.mem_map_of_mem he, hr, ho⟩
  · intro b hb
    rcases rsub b hb with q | ⟨q1, q2, q3, q4⟩
    · exact .inl q
    · refine .inr ⟨q1, q2, q3, ?_⟩
      rcases q4 with q | ⟨e, he, r, hr, ho⟩
      · exact .inl q
      · exact .inr ⟨e.k, r, List.mem_map_of_mem he, hr, ho⟩
  · intro E k r hk hr
    obtain ⟨e, he, rfl, rfl, hg⟩ := mem k r hk hr
    rw [hg]; exact root hi E e he
  · intro k r b hk hr ho
    obtain ⟨e, he, rfl, rfl, hg⟩ := mem k r hk hr
    rw [hg] at ho
    obtain ⟨q1, q2, q3, q4⟩ := own e he b ho
    refine ⟨q1, q2, q3, ?_⟩
    rcases q4 with q | ⟨e', he', r, hr, ho⟩
    · exact .inl q
    · exact .inr ⟨e'.k, r, List.mem_map_of_mem he', hr, ho⟩
  · intro k k' r r' b hne hk hk' hr hr' ho ho'
    obtain ⟨e, he, rfl, rfl, hg⟩ := mem k r hk hr
    obtain ⟨e', he', rfl, rfl, hg'⟩ := mem k' r' hk' hr'
    rw [hg] at ho; rw [hg'] at ho'
    exact disj e he e' he' hne b ho ho'
  · intro k r hk hr
    obtain ⟨e, he, rfl, rfl, hg⟩ := mem k r hk hr
    rw [hg]; exact par e he
structure Born (h : Hp) (R B : Nat → Prop) (par : Bool) (es : List Ent) : Prop where
  par : ∀ e ∈ es, e.r.par = par
  own : ∀ e ∈ es, ∀ b, Owns e.g b e.r → B b
  disj : es.Pairwise fun e e' => ∀ b, Owns e.g b e.r → ¬ Owns e'.g b e'.r
  root : ∀ rt γ, Inst es rt γ → ∀ e ∈ es, RootR h R rt γ e.g e.r
theorem Born.nil {B : Nat → Prop} {par : Bool} : Born h R B par [] := ⟨by simp, by simp, .nil, by simp⟩
theorem Born.app {B B1 B2 : Nat → Prop} {par : Bool} {a b : List Ent} (H : Born h R B1 par a) (K : Born h R B2 par b) (hd : ∀ x, B1 x → ¬ B2 x) (s1 : ∀ x, B1 x → B x) (s2 : ∀ x, B2 x → B x) : Born h R B par (a ++ b) := by
  refine ⟨fun e he => ?_, fun e he x hx => ?_, ?_, fun rt γ hi e he => ?_⟩
  · rcases List.mem_append.1 he with q | q
    · exact H.par e q
    · exact K.par e q
  · rcases List.mem_append.1 he with q | q
    · exact s1 x (H.own e q x hx)
    · exact s2 x (K.own e q x hx)
  · rw [List.pairwise_append]
    exact ⟨H.disj, K.disj, fun e he e' he' x hx hx' => hd x (H.own e he x hx) (K.own e' he' x hx')⟩
  · rcases List.mem_append.1 he with q | q
    · exact H.root rt γ hi.left e q
    · exact K.root rt γ hi.right e q
theorem Born.wide {B B' : Nat → Prop} {par : Bool} {a : List Ent} (H : Born h R B par a) (s : ∀ x, B x → B' x) : Born h R B' par a := ⟨H.par, fun e he x hx => s x (H.own e he x hx), H.disj, H.root⟩
theorem Ro.nokey {c : PI.C} {x : Value} (H : Ro h R [c] [x]) (h1 : ∀ v, ¬ PI.sc c v) (h2 : ∀ rows, ¬ isRow c rows) (h3 : ∀ el off, c ≠ .rptr el off) : False := by
  cases H with
  | sc a _ => exact h1 _ a
  | e a _ => exact h2 _ a
  | row a => exact h2 _ a
  | ptr => exact h3 _ _ rfl
theorem ro_leaf' {c : PI.C} {x : Value} (H : Ro h R [c] [x]) : Leaf h R rt γ c x := by
  cases c
  case ref => exact (H.nokey (by simp [PI.sc]) (by simp [isRow]) (by simp)).elim
  case nref => exact (H.nokey (by simp [PI.sc]) (by simp [isRow]) (by simp)).elim
  case view => exact (H.nokey (by simp [PI.sc]) (by simp [isRow]) (by simp)).elim
  case bptr => exact (H.nokey (by simp [PI.sc]) (by simp [isRow]) (by simp)).elim
  case eptr => exact (H.nokey (by simp [PI.sc]) (by simp [isRow]) (by simp)).elim
  all_goals exact H
theorem ro_leaf {c : PI.C} {x : Value} (H : Ro h R [c] [x]) (_ : c.isSl = false) : Leaf h R rt γ c x := ro_leaf' H
theorem bornC_ents {B : Nat → Prop} {par : Bool} {d j : Nat} {c : PI.C} {x : Value} (O : Own h R B [c] [x]) :
    ∃ es, (bornC par d j c).2 = upsOf es ∧ Born h R B par es ∧ ∀ rt γ, Inst es rt γ → Leaf h R rt γ (bornC par d j c).1 x := by
  by_cases hs : c.isSl = true
  · cases c <;> simp only [C.isSl, Bool.false_eq_true] at hs
    rename_i rows
    obtain ⟨a, n, cap, rfl⟩ : ∃ a n cap, x = .slice a n cap := by
      cases O with
      | ro a _ _ => simp [C.isSl] at a
      | e => exact ⟨_, _, _, rfl⟩
      | row => exact ⟨_, _, _, rfl⟩
    have hn := O.inv.1
    subst hn
    refine ⟨[⟨rkey d j, .row par 0 rows none, ⟨a, cap, B⟩⟩], rfl, ⟨by simp [Root.par], by simp [Owns], by simp, ?_⟩, ?_⟩
    · intro rt γ _ e he
      simp only [List.mem_singleton] at he; subst he
      exact ⟨O, by simp⟩
    · intro rt γ hi
      obtain ⟨h1, h2⟩ := hi _ (List.mem_singleton.2 rfl)
      refine ⟨a, cap, rfl, ?_, by rw [h1]; rfl, fun rows' hr => ?_⟩
      · rcases O.inv.2 with ⟨q1, q2⟩ | ⟨b, _, _, _, _, _, q1, _, _, q2, _⟩
        · subst q1; simp
        · exact ⟨q2, fun _ => by rw [q1]; rfl⟩
      · rw [h1] at hr
        simp only [rowsAt, eff, Option.some.injEq] at hr; subst hr
        exact ⟨Nat.le_refl _, fun _ => by rw [h2]; exact ⟨rfl, rfl⟩⟩
  · have hs : c.isSl = false := by simpa using hs
    have e : bornC par d j c = (c, []) := by cases c <;> first | rfl | simp [C.isSl] at hs
    rw [e]
    refine ⟨[], rfl, .nil, fun rt γ _ => ?_⟩
    cases O with
    | ro _ r _ => exact ro_leaf r hs
    | e => simp [C.isSl] at hs
    | row => simp [C.isSl] at hs
theorem bornCs_ents {par : Bool} {d : Nat} : ∀ {cs : List PI.C} {B : Nat → Prop} {j : Nat} {xs : List Value}, Own h R B cs xs →
    ∃ es, (bornCs par d j cs).2 = upsOf es ∧ Born h R B par es ∧ ∀ rt γ, Inst es rt γ → Pw (Leaf h R rt γ) (bornCs par d j cs).1 xs
  | [], B, j, xs, O => by
    cases O
    exact ⟨[], rfl, .nil, fun _ _ _ => .nil⟩
  | c :: cs, B, j, xs, O => by
    obtain ⟨B1, B2, v1, v2, rfl, o1, o2, hd, s1, s2⟩ := Own.split (cs := [c]) (ds := cs) O
    obtain ⟨x, rfl⟩ : ∃ x, v1 = [x] := by
      have := o1.len
      match v1, this with
      | [x], _ => exact ⟨x, rfl⟩
    obtain ⟨es, e1, b1, l1⟩ := bornC_ents (par := par) (d := d) (j := j) o1
    obtain ⟨es', e2, b2, l2⟩ := bornCs_ents (par := par) (d := d) (j := j + 1) o2
    refine ⟨es ++ es', by rw [upsOf_append, ← e1, ← e2]; rfl, b1.app b2 hd s1 s2, fun rt γ hi => .cons (l1 rt γ hi.left) (l2 rt γ hi.right)⟩
theorem bornV_ents {par : Bool} {d j : Nat} {B : Nat → Prop} {v : V} {x : Value} (O : RV h R B v x) :
    ∃ es, (bornV par d j v).2.1 = upsOf es ∧ Born h R B par es ∧ ∀ rt γ, Inst es rt γ → VR1 h R rt γ (bornV par d j v).1 x := by
  cases v with
  | tup => exact O.elim
  | agg cs =>
    obtain ⟨arr, rfl, o⟩ := O
    obtain ⟨es, e1, b1, l1⟩ := bornCs_ents (par := par) (d := d) (j := j) o
    exact ⟨es, e1, b1, fun rt γ hi => ⟨arr, rfl, l1 rt γ hi⟩⟩
  | one c =>
    by_cases hc : ∃ cells, c = .pt cells
    · obtain ⟨cells, rfl⟩ := hc
      obtain ⟨b, arr, elem, B1, rfl, hb, o, nb, bb, s⟩ := O
      obtain ⟨es, e1, b1, l1⟩ := bornCs_ents (par := par) (d := d) (j := j + 1) o
      refine ⟨⟨rkey d j, .box par (bornCs par d (j + 1) cells).1, ⟨some ⟨b, 0, none⟩, 0, fun y => y = b⟩⟩ :: es, ?_, ⟨?_, ?_, ?_, ?_⟩, ?_⟩
      · show (rkey d j, some (.box par (bornCs par d (j + 1) cells).1)) :: (bornCs par d (j + 1) cells).2 = _
        rw [e1]; rfl
      · intro e he
        rcases List.mem_cons.1 he with rfl | he
        · rfl
        · exact b1.par e he
      · intro e he y hy
        rcases List.mem_cons.1 he with rfl | he
        · have : y = b := hy
          subst this; exact bb
        · exact s y (b1.own e he y hy)
      · rw [List.pairwise_cons]
        refine ⟨fun e he y hy hy' => ?_, b1.disj⟩
        have : y = b := hy
        subst this
        exact nb (b1.own e he y hy')
      · intro rt γ hi e he
        have hi2 : Inst es rt γ := fun e he => hi e (List.mem_cons_of_mem _ he)
        rcases List.mem_cons.1 he with rfl | he
        · exact ⟨b, arr, elem, rfl, rfl, fun _ h => h, hb, l1 rt γ hi2⟩
        · exact b1.root rt γ hi2 e he
      · intro rt γ hi
        obtain ⟨h1, h2⟩ := hi _ (List.mem_cons_self ..)
        refine ⟨⟨b, 0, none⟩, rfl, by simp only at h1; rw [h1]; rfl, fun p cells' hr => ?_⟩
        simp only at h2
        exact ⟨b, by rw [h2], rfl⟩
    · have o : Own h R B [c] [x] := by
        cases c <;> first | exact O | exact absurd ⟨_, rfl⟩ hc
      obtain ⟨es, e1, b1, l1⟩ := bornC_ents (par := par) (d := d) (j := j) o
      have : bornV par d j (.one c) = (.one (bornC par d j c).1, (bornC par d j c).2, j + 1) := by
        cases c <;> first | rfl | exact absurd ⟨_, rfl⟩ hc
      rw [this]
      exact ⟨es, e1, b1, l1⟩
theorem bornVs_ents {d : Nat} {vs : List V} : ∀ {B : Nat → Prop} {j : Nat} {xs : List Value}, RVs h R B vs xs →
    ∃ es, (bornVs false d j vs).2 = upsOf es ∧ Born h R B false es ∧ ∀ rt γ, Inst es rt γ → Pw (VR1 h R rt γ) (bornVs false d j vs).1 xs := by
  induction vs with
  | nil => intro B j xs O; cases O; exact ⟨[], rfl, .nil, fun _ _ _ => .nil⟩
  | cons v vs ih =>
    intro B j xs O
    cases O with
    | cons o t hd s1 s2 =>
      obtain ⟨es, e1, b1, l1⟩ := bornV_ents (par := false) (d := d) (j := j) o
      obtain ⟨es', e2, b2, l2⟩ := ih (j := (bornV false d j v).2.2) t
      exact ⟨es ++ es', by rw [upsOf_append, ← e1, ← e2]; rfl, b1.app b2 hd s1 s2, fun rt γ hi => .cons (l1 rt γ hi.left) (l2 rt γ hi.right)⟩
theorem VR_of_VR1 {v : V} {x : Value} (H : VR1 h R rt γ v x) : VR h R rt γ v x := by
  cases v with
  | tup => exact H.elim
  | one => exact H
  | agg => exact H
theorem bornR_ents {d : Nat} {B : Nat → Prop} {v : V} {x : Value} (O : RT h R B v x) :
    ∃ es, (bornR d v).2 = upsOf es ∧ Born h R B false es ∧ ∀ rt γ, Inst es rt γ → VR h R rt γ (bornR d v).1 x := by
  cases v with
  | tup vs =>
    obtain ⟨arr, rfl, o⟩ := O
    obtain ⟨es, e1, b1, l1⟩ := bornVs_ents (d := d) (j := 0) o
    exact ⟨es, e1, b1, fun rt γ hi => ⟨arr, rfl, l1 rt γ hi⟩⟩
  | one c =>
    obtain ⟨es, e1, b1, l1⟩ := bornV_ents (par := false) (d := d) (j := 0) (v := .one c) O
    exact ⟨es, e1, b1, fun rt γ hi => VR_of_VR1 (l1 rt γ hi)⟩
  | agg cs =>
    obtain ⟨es, e1, b1, l1⟩ := bornV_ents (par := false) (d := d) (j := 0) (v := .agg cs) O
    exact ⟨es, e1, b1, fun rt γ hi => VR_of_VR1 (l1 rt γ hi)⟩
theorem Ro.noR {c : PI.C} {x : Value} (H : Ro h R [c] [x]) (hc : c.isRsl = false) (hs : c.isSl = false) : Ro h R' [c] [x] := by
  cases H with
  | sc a _ => exact .sc a .nil
  | e a _ => rcases a with rfl | rfl <;> simp [C.isRsl, C.isSl] at hc hs
  | row a => rcases a with rfl | rfl <;> simp [C.isRsl, C.isSl] at hc hs
  | ptr => simp [C.isRsl] at hc
theorem Own.noR {B : Nat → Prop} {cs : List PI.C} {xs : List Value} (H : Own h R B cs xs) : cs.any C.isRsl = false → Own h R' B cs xs := by
  induction H with
  | nil => exact fun _ => .nil
  | ro a r _ ih =>
    intro hc
    simp only [List.any_cons, Bool.or_eq_false_iff] at hc
    exact .ro a (r.noR hc.1 a) (ih hc.2)
  | e _ ih => intro hc; simp only [List.any_cons, Bool.or_eq_false_iff] at hc; exact .e (ih hc.2)
  | row a b c d e f _ n1 n2 n3 m1 m2 m3 _ ih =>
    intro hc; simp only [List.any_cons, Bool.or_eq_false_iff] at hc
    exact .row a b c d e f (ih hc.2) n1 n2 n3 m1 m2 m3
theorem RV.noR {B : Nat → Prop} {v : V} {x : Value} (H : RV h R B v x) (hv : v.hasRsl = false) : RV h R' B v x := by
  cases v with
  | tup => exact H.elim
  | agg cs =>
    obtain ⟨arr, rfl, o⟩ := H
    refine ⟨arr, rfl, o.noR ?_⟩
    simp only [V.hasRsl, List.any_eq_false] at hv ⊢
    intro c hc
    have := hv c hc
    cases c <;> simp_all [C.hasRsl, C.isRsl]
  | one c =>
    cases c
    case pt cells =>
      obtain ⟨b, arr, elem, B1, rfl, hb, o, q⟩ := H
      exact ⟨b, arr, elem, B1, rfl, hb, o.noR hv, q⟩
    all_goals
      refine Own.noR (R := R) H ?_
      simp_all [V.hasRsl, C.hasRsl, C.isRsl]
theorem RVs.noR {B : Nat → Prop} {vs : List V} {xs : List Value} (H : RVs h R B vs xs) : (V.tup vs).hasRsl = false → RVs h R' B vs xs := by
  induction H with
  | nil => exact fun _ => .nil
  | cons o _ hd s1 s2 ih =>
    rename_i v x vs xs _
    intro hv
    simp only [V.hasRsl, List.any_cons, Bool.or_eq_false_iff] at hv
    refine .cons (o.noR ?_) (ih (by simp only [V.hasRsl]; exact hv.2)) hd s1 s2
    cases v with
    | one => exact hv.1
    | agg => exact hv.1
    | tup => exact o.elim
theorem RT.noR {B : Nat → Prop} {v : V} {x : Value} (H : RT h R B v x) (hv : v.hasRsl = false) : RT h R' B v x := by
  cases v with
  | tup vs => obtain ⟨arr, rfl, o⟩ := H; exact ⟨arr, rfl, o.noR hv⟩
  | one c => exact RV.noR (v := .one c) H hv
  | agg cs => exact RV.noR (v := .agg cs) H hv
end
end Go.Proofs.Ytdgamfanffnhaaa.PI

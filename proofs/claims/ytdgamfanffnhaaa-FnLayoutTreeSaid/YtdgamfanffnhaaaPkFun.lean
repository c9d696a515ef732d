/-
  A function's beginning and end; and all functions: what PI answers the machine answers. No condition but that each function's code has been checked (okFunc) and that the machine draws its orders freely.
-/
import Derived.Test.YtdgamfanffnhaaaPkExec
import Derived.Laws.Sem
set_option linter.unusedVariables false
set_option linter.unusedSimpArgs false
namespace Go.Proofs.Ytdgamfanffnhaaa.PI
open Go
def resOk (P : Program) : List ResultVar → List PRes → Bool
  | [], [] => true
  | .tmp t :: rs, .tmp t' :: ps => t == t' && resOk P rs ps
  | .cell a t :: rs, .cell a' agg sz :: ps => a == a' && (sizeIs P t sz && (descIs P t (fun d => aggOf d == agg) && resOk P rs ps))
  | _, _ => false
def okFunc (P : Program) (own : Nat → List Bool) (f : Nat) (pf : PFunc) : Bool :=
  match P.funcs[f]? with
  | some fn => own f == pf.own && (decide (pf.np ≤ 1000) && ((fn.name == "runtime.NumGoroutine") == false && ((match fn.body with
    | some c => codeOk P fn.ntmps c pf.body
    | none => false) && resOk P fn.results.toList pf.res)))
  | none => false
section
variable {P : Program} {X : Ctx} {rt rt' : Rt} {w w' : World} {R R' : Nat → Prop} {γ γ' : Gm} {h h' : Hp} {env : List (Nat × V)} {a : Act} {call : Nat → List V → Option Res} {cfg : Cfg} {N : Nat}
theorem rkey_inj {d d' j j' : Nat} (hd : d < 1000) (hd' : d' < 1000) (e : rkey d j = rkey d' j') : d = d' ∧ j = j' := by
  unfold rkey at e; omega
def KeysOk (d j : Nat) (l : List Nat) : Prop := l.Nodup ∧ ∀ k ∈ l, ∃ m, j ≤ m ∧ k = rkey d m
theorem KeysOk.nil (d j : Nat) : KeysOk d j [] := ⟨List.nodup_nil, by simp⟩
theorem bornC_keys (par : Bool) (d j : Nat) (c : C) : KeysOk d j ((bornC par d j c).2.map (·.1)) ∧ ∀ k ∈ (bornC par d j c).2.map (·.1), k = rkey d j := by
  cases c
  case sl rows => exact ⟨⟨by simp [bornC], fun k hk => ⟨j, Nat.le_refl _, by simpa [bornC] using hk⟩⟩, by simp [bornC]⟩
  all_goals exact ⟨KeysOk.nil _ _, by simp [bornC]⟩
theorem bornCs_keys (par : Bool) (d : Nat) : ∀ (j : Nat) (cs : List C), KeysOk d j ((bornCs par d j cs).2.map (·.1))
  | j, [] => KeysOk.nil _ _
  | j, c :: cs => by
    obtain ⟨⟨n1, k1⟩, e1⟩ := bornC_keys par d j c
    obtain ⟨n2, k2⟩ := bornCs_keys par d (j + 1) cs
    simp only [bornCs, List.map_append]
    refine ⟨?_, fun k hk => ?_⟩
    · rw [List.nodup_append]
      refine ⟨n1, n2, fun a ha b hb hab => ?_⟩
      have e2 := e1 a ha
      obtain ⟨m, hm, e3⟩ := k2 b hb
      rw [e2, e3] at hab
      unfold rkey at hab; omega
    · rcases List.mem_append.1 hk with hk | hk
      · exact k1 k hk
      · obtain ⟨m, hm, e⟩ := k2 k hk
        exact ⟨m, by omega, e⟩
theorem bornV_keys (par : Bool) (d j : Nat) (v : V) : KeysOk d j ((bornV par d j v).2.1.map (·.1)) := by
  cases v with
  | tup => exact KeysOk.nil _ _
  | agg cs => exact bornCs_keys par d j cs
  | one c =>
    cases c
    case pt cells =>
      obtain ⟨n2, k2⟩ := bornCs_keys par d (j + 1) cells
      simp only [bornV, List.map_cons]
      refine ⟨?_, fun k hk => ?_⟩
      · rw [List.nodup_cons]
        refine ⟨fun hk => ?_, n2⟩
        obtain ⟨m, hm, e⟩ := k2 _ hk
        unfold rkey at e; omega
      · rcases List.mem_cons.1 hk with rfl | hk
        · exact ⟨j, Nat.le_refl _, rfl⟩
        · obtain ⟨m, hm, e⟩ := k2 k hk
          exact ⟨m, by omega, e⟩
    all_goals exact (bornC_keys par d j _).1
def PE (h : Hp) (e : Ent) (p : C × Value) : Prop :=
  (∃ rows, e.r = .row true 0 rows none ∧ p = (.sl rows, .slice e.g.addr rows.length e.g.cap)) ∨
  (∃ cells b arr elem, e.r = .box true cells ∧ p = (.pt cells, .pointer (some ⟨b, 0, none⟩)) ∧ e.g.addr = some ⟨b, 0, none⟩ ∧ h b = some (.cells arr elem (0, 0)))
theorem bornC_pe {B : Nat → Prop} {d j : Nat} {c : PI.C} {x : Value} (O : Own h R B [c] [x]) :
    ∃ es, (bornC true d j c).2 = upsOf es ∧ Born h R B true es ∧ (∀ rt γ, Inst es rt γ → Leaf h R rt γ (bornC true d j c).1 x) ∧ Pw (PE h) es (([c].zip [x]).filter (·.1.isSl)) := by
  obtain ⟨es, e1, b1, l1⟩ := bornC_ents (par := true) (d := d) (j := j) O
  by_cases hs : c.isSl = true
  · cases c <;> simp only [C.isSl, Bool.false_eq_true] at hs
    rename_i rows
    obtain ⟨a, n, cap, rfl⟩ : ∃ a n cap, x = .slice a n cap := by
      cases O with
      | ro a _ _ => simp [C.isSl] at a
      | e => exact ⟨_, _, _, rfl⟩
      | row => exact ⟨_, _, _, rfl⟩
    have hn := O.inv.1
    subst hn
    refine ⟨[⟨rkey d j, .row true 0 rows none, ⟨a, cap, B⟩⟩], rfl, ⟨by simp [Root.par], by simp [Owns], by simp, ?_⟩, ?_, .cons (.inl ⟨rows, rfl, rfl⟩) .nil⟩
    · intro rt γ _ e he
      simp only [List.mem_singleton] at he; subst he
      exact ⟨O, by simp⟩
    · intro rt γ hi
      obtain ⟨h1, h2⟩ := hi _ (List.mem_singleton.2 rfl)
      refine ⟨a, cap, rfl, ?_, by rw [h1]; rfl, fun rows' hr => ?_⟩
      · rcases O.inv.2 with ⟨q1, q2⟩ | ⟨b, _, _, _, _, _, q1, _, _, q2, _⟩
        · subst q1; simp
        · exact ⟨q2, fun _ => by rw [q1]; rfl⟩
      · rw [h1] at hr
        simp only [rowsAt, eff, Option.some.injEq] at hr; subst hr
        exact ⟨Nat.le_refl _, fun _ => by rw [h2]; exact ⟨rfl, rfl⟩⟩
  · have hs : c.isSl = false := by simpa using hs
    have e0 : (bornC true d j c).2 = [] := by cases c <;> first | rfl | simp [C.isSl] at hs
    have : es = [] := by
      rw [e0] at e1
      cases es with
      | nil => rfl
      | cons e es => simp [upsOf] at e1
    subst this
    refine ⟨[], e1, b1, l1, ?_⟩
    simpa [hs] using Pw.nil
theorem bornCs_pe {d : Nat} : ∀ {cs : List PI.C} {B : Nat → Prop} {j : Nat} {xs : List Value}, Own h R B cs xs →
    ∃ es, (bornCs true d j cs).2 = upsOf es ∧ Born h R B true es ∧ (∀ rt γ, Inst es rt γ → Pw (Leaf h R rt γ) (bornCs true d j cs).1 xs) ∧ Pw (PE h) es ((cs.zip xs).filter (·.1.isSl))
  | [], B, j, xs, O => by
    cases O
    exact ⟨[], rfl, .nil, fun _ _ _ => .nil, .nil⟩
  | c :: cs, B, j, xs, O => by
    obtain ⟨B1, B2, v1, v2, rfl, o1, o2, hd, s1, s2⟩ := Own.split (cs := [c]) (ds := cs) O
    obtain ⟨x, rfl⟩ : ∃ x, v1 = [x] := by
      have := o1.len
      match v1, this with
      | [x], _ => exact ⟨x, rfl⟩
    obtain ⟨es, e1, b1, l1, p1⟩ := bornC_pe (d := d) (j := j) o1
    obtain ⟨es', e2, b2, l2, p2⟩ := bornCs_pe (d := d) (j := j + 1) o2
    refine ⟨es ++ es', by rw [upsOf_append, ← e1, ← e2]; rfl, b1.app b2 hd s1 s2, fun rt γ hi => .cons (l1 rt γ hi.left) (l2 rt γ hi.right), ?_⟩
    have := p1.app p2
    rw [← List.filter_append] at this
    exact this
theorem bornCs_plain (par : Bool) (d : Nat) : ∀ (j : Nat) (cs : List PI.C), cs.all C.plainRo = true → bornCs par d j cs = (cs, [])
  | _, [], _ => rfl
  | j, c :: cs, hc => by
    simp only [List.all_cons, Bool.and_eq_true] at hc
    have e : bornC par d j c = (c, []) := by cases c <;> first | rfl | simp [C.plainRo, C.scalar] at hc
    simp only [bornCs, e, bornCs_plain par d (j + 1) cs hc.2]; rfl
theorem bornV_pe {d j : Nat} {B : Nat → Prop} {v : V} {x : Value} (O : RV h R B v x) (hp : ptPlain v = true) :
    ∃ es, (bornV true d j v).2.1 = upsOf es ∧ Born h R B true es ∧ (∀ rt γ, Inst es rt γ → VR1 h R rt γ (bornV true d j v).1 x) ∧ Pw (PE h) es (parts v x) := by
  cases v with
  | tup => exact O.elim
  | agg cs =>
    obtain ⟨arr, rfl, o⟩ := O
    obtain ⟨es, e1, b1, l1, p1⟩ := bornCs_pe (d := d) (j := j) o
    exact ⟨es, e1, b1, fun rt γ hi => ⟨arr, rfl, l1 rt γ hi⟩, p1⟩
  | one c =>
    by_cases hc : ∃ cells, c = .pt cells
    · obtain ⟨cells, rfl⟩ := hc
      have hpl : cells.all C.plainRo = true := hp
      obtain ⟨b, arr, elem, B1, rfl, hb, o, nb, bb, s⟩ := O
      have e0 := bornCs_plain true d (j + 1) cells hpl
      refine ⟨[⟨rkey d j, .box true cells, ⟨some ⟨b, 0, none⟩, 0, fun y => y = b⟩⟩], ?_, ⟨?_, ?_, by simp, ?_⟩, ?_, .cons (.inr ⟨cells, b, arr, elem, rfl, rfl, rfl, hb⟩) .nil⟩
      · show (rkey d j, some (.box true (bornCs true d (j + 1) cells).1)) :: (bornCs true d (j + 1) cells).2 = _
        rw [e0]; rfl
      · simp [Root.par]
      · intro e he y hy
        simp only [List.mem_singleton] at he; subst he
        have : y = b := hy
        subst this; exact bb
      · intro rt γ hi e he
        simp only [List.mem_singleton] at he; subst he
        refine ⟨b, arr, elem, rfl, rfl, fun _ h => h, hb, Pw.of o.len fun i c y hi hy => ?_⟩
        obtain ⟨y', hy', ho⟩ := o.sub hi
        rw [hy] at hy'; injection hy' with hy'; subst hy'
        have hcp := List.all_eq_true.1 hpl c (List.mem_of_getElem? hi)
        have hns : c.isSl = false := by cases c <;> first | rfl | simp [C.plainRo, C.scalar] at hcp
        cases ho with
        | ro _ r _ => exact ro_leaf r hns
        | e => simp [C.isSl] at hns
        | row => simp [C.isSl] at hns
      · intro rt γ hi
        obtain ⟨h1, h2⟩ := hi _ (List.mem_singleton.2 rfl)
        refine ⟨⟨b, 0, none⟩, rfl, by simp only at h1; rw [h1]; rfl, fun p cells' hr => ?_⟩
        simp only at h2
        exact ⟨b, by rw [h2], rfl⟩
    · have o : Own h R B [c] [x] := by
        cases c <;> first | exact O | exact absurd ⟨_, rfl⟩ hc
      obtain ⟨es, e1, b1, l1, p1⟩ := bornC_pe (d := d) (j := j) o
      have : bornV true d j (.one c) = (.one (bornC true d j c).1, (bornC true d j c).2, j + 1) := by
        cases c <;> first | rfl | exact absurd ⟨_, rfl⟩ hc
      rw [this]
      refine ⟨es, e1, b1, l1, ?_⟩
      have hpp : parts (.one c) x = (([c].zip [x]).filter (·.1.isSl)) := by
        cases c <;> first | rfl | exact absurd ⟨_, rfl⟩ hc
      rw [hpp]; exact p1
theorem RoV.vr {v : V} {x : Value} (H : RoV h R v x) : VR h R rt γ v x := by
  cases v with
  | tup => exact H.elim
  | one c => exact ro_leaf' H
  | agg cs =>
    obtain ⟨arr, rfl, o⟩ := H
    refine ⟨arr, rfl, Pw.of o.len fun i c y hi hy => ?_⟩
    obtain ⟨y', hy', hl⟩ := o.pw.at hi
    rw [hy] at hy'; injection hy' with hy'; subst hy'
    exact ro_leaf' hl
theorem filterMap_ups (es : List Ent) : (upsOf es).filterMap (fun (k, x) => x.map (k, ·)) = es.map fun e => (e.k, e.r) := by
  induction es with
  | nil => rfl
  | cons e es ih =>
    have : upsOf (e :: es) = (e.k, some e.r) :: upsOf es := rfl
    rw [this, List.filterMap_cons]; simp only [Option.map_some, List.map_cons, ih]
theorem enter_ents {B : Nat → Prop} {fs : List Bool} {vs : List V} {xs : List Value} {ps : List (PI.C × Value)} (H : AR h R B fs vs xs ps) : ∀ {i : Nat}, i + vs.length ≤ 1000 →
    ∃ es, (enter fs i vs).2.1 = es.map (fun e => (e.k, e.r)) ∧ (enter fs i vs).2.2 = es.map (·.k) ∧ Born h R B true es ∧ Pw (PE h) es ps ∧ (es.map (·.k)).Nodup ∧ (∀ e ∈ es, ∃ d m, i ≤ d ∧ d < 1000 ∧ e.k = rkey d m) ∧
      (∀ rt γ, Inst es rt γ → ∀ n v, get (enter fs i vs).1 n = some v → ∃ j x, n = i + j ∧ xs[j]? = some x ∧ VR h R rt γ v x) := by
  induction H with
  | nil => intro i _; exact ⟨[], rfl, rfl, .nil, .nil, List.nodup_nil, by simp, fun _ _ _ n v hv => by simp [enter, get] at hv⟩
  | @ro B fs v x vs xs ps h0 r _ ih =>
    intro i hi
    simp only [List.length_cons] at hi
    obtain ⟨es, e1, e2, b, p, n, ks, l⟩ := ih (i := i + 1) (by omega)
    refine ⟨es, ?_, ?_, b, p, n, fun e he => ?_, fun rt γ hI n v' hv => ?_⟩
    · simp only [enter, h0]; exact e1
    · simp only [enter, h0]; exact e2
    · obtain ⟨d, m, q1, q2, q3⟩ := ks e he; exact ⟨d, m, by omega, q2, q3⟩
    · simp only [enter, h0, Bool.false_eq_true, if_false, get] at hv
      split at hv
      · injection hv with hv; subst hv
        exact ⟨0, x, by omega, rfl, r.vr⟩
      · obtain ⟨j, y, q1, q2, q3⟩ := l rt γ hI n v' hv
        exact ⟨j + 1, y, by omega, by simpa using q2, q3⟩
  | @own B B1 B2 fs v x vs xs ps o hp _ hd s1 s2 ih =>
    intro i hi
    simp only [List.length_cons] at hi
    obtain ⟨es, e1, e2, b, p, n, ks, l⟩ := ih (i := i + 1) (by omega)
    obtain ⟨es', f1, b', l', p'⟩ := bornV_pe (d := i) (j := 0) o hp
    have kk := bornV_keys true i 0 v
    rw [f1, upsOf_keys] at kk
    refine ⟨es' ++ es, ?_, ?_, b'.app b hd s1 s2, p'.app p, ?_, ?_, fun rt γ hI n v' hv => ?_⟩
    · simp only [enter, List.headD_cons, if_true, f1, filterMap_ups, List.tail_cons, e1, List.map_append]
    · simp only [enter, List.headD_cons, if_true, f1, upsOf_keys, List.tail_cons, e2, List.map_append]
    · rw [List.map_append, List.nodup_append]
      refine ⟨kk.1, n, fun a ha c hc hac => ?_⟩
      obtain ⟨m, _, q⟩ := kk.2 a ha
      obtain ⟨e, he, rfl⟩ := List.mem_map.1 hc
      obtain ⟨d, m', q1, q2, q3⟩ := ks e he
      have := (rkey_inj (by omega) q2 (q.symm.trans (hac.trans q3))).1
      omega
    · intro e he
      rcases List.mem_append.1 he with he | he
      · obtain ⟨m, _, q⟩ := kk.2 e.k (List.mem_map_of_mem he)
        exact ⟨i, m, Nat.le_refl _, by omega, q⟩
      · obtain ⟨d, m, q1, q2, q3⟩ := ks e he; exact ⟨d, m, by omega, q2, q3⟩
    · simp only [enter, List.headD_cons, if_true, List.tail_cons, get] at hv
      split at hv
      · injection hv with hv; subst hv
        exact ⟨0, x, by omega, rfl, VR_of_VR1 (l' rt γ hI.left)⟩
      · obtain ⟨j, y, q1, q2, q3⟩ := l rt γ hI.right n v' hv
        exact ⟨j + 1, y, by omega, by simpa using q2, q3⟩
theorem get_ents : ∀ {es : List Ent}, (es.map (·.k)).Nodup → (∀ e ∈ es, get (es.map fun e => (e.k, e.r)) e.k = some e.r) ∧ ∀ k r, get (es.map fun e => (e.k, e.r)) k = some r → ∃ e ∈ es, e.k = k ∧ e.r = r
  | [], _ => ⟨by simp, fun k r hr => by simp [get] at hr⟩
  | x :: es, hn => by
    rw [List.map_cons, List.nodup_cons] at hn
    obtain ⟨i1, i2⟩ := get_ents hn.2
    refine ⟨fun e he => ?_, fun k r hr => ?_⟩
    · simp only [List.map_cons, get]
      split
      · rename_i hk
        rcases List.mem_cons.1 he with rfl | he
        · rfl
        · exact absurd (List.mem_map.2 ⟨e, he, hk.symm⟩) hn.1
      · rename_i hk
        rcases List.mem_cons.1 he with rfl | he
        · exact absurd rfl hk
        · exact i1 e he
    · simp only [List.map_cons, get] at hr
      split at hr
      · rename_i hk
        injection hr with hr
        exact ⟨x, List.mem_cons_self .., hk, hr⟩
      · obtain ⟨e, he, q⟩ := i2 k r hr
        exact ⟨e, List.mem_cons_of_mem _ he, q⟩
def parOf (h : Hp) (e : Ent) : Option Par :=
  match e.r with
  | .row _ _ rows foc => some (.row e.g.addr e.g.cap (eff rows foc))
  | .box _ _ => match e.g.addr with
    | some ad => match h ad.block with
      | some (.cells arr _ _) => some (.box ad.block arr)
      | _ => none
    | none => none
  | _ => none
def ctxOf (w : World) (R B : Nat → Prop) (es : List Ent) (fz : Bool) : Ctx :=
  ⟨w, R, B, fun k => match es.find? (fun e => e.k == k) with
    | some e => parOf (hp w) e
    | none => none, fz⟩
theorem find_mem {es : List Ent} (hd : (es.map (·.k)).Nodup) {e : Ent} (he : e ∈ es) : es.find? (fun e' => e'.k == e.k) = some e := by
  induction es with
  | nil => cases he
  | cons x es ih =>
    rw [List.map_cons, List.nodup_cons] at hd
    rw [List.find?_cons]
    rcases List.mem_cons.1 he with rfl | he
    · simp
    · have : (x.k == e.k) = false := by
        rw [beq_eq_false_iff_ne]; intro hk
        exact hd.1 (List.mem_map.2 ⟨e, he, hk.symm⟩)
      rw [this]; exact ih hd.2 he
theorem begin_mem {B : Nat → Prop} {es : List Ent} {ps : List (PI.C × Value)} {fz : Bool} (hn : (es.map (·.k)).Nodup) (b : Born (hp w) R B true es) (pe : Pw (PE (hp w)) es ps) (hBR : ∀ b, B b → ¬ R b) (hB : ∀ b, B b → b < w.heap.size) (hR : ∀ b, R b → b < w.heap.size) :
    Mem (ctxOf w R B es fz) (get (es.map fun e => (e.k, e.r))) w R (gOf (fun _ => nilGk) es) ∧ Inst es (get (es.map fun e => (e.k, e.r))) (gOf (fun _ => nilGk) es) := by
  obtain ⟨g1, g2⟩ := get_ents hn
  have hi : Inst es (get (es.map fun e => (e.k, e.r))) (gOf (fun _ => nilGk) es) := fun e he => ⟨g1 e he, gOf_mem hn he⟩
  have key : ∀ k r, get (es.map fun e => (e.k, e.r)) k = some r → ∃ e ∈ es, e.k = k ∧ e.r = r ∧ gOf (fun _ => nilGk) es k = e.g := by
    intro k r hr
    obtain ⟨e, he, rfl, h2⟩ := g2 k r hr
    exact ⟨e, he, rfl, h2, gOf_mem hn he⟩
  refine ⟨⟨?_, ?_, ?_, ?_, ?_, hR, fun _ h => .inl h, fun _ h => h, fun _ _ h => h, fun _ _ _ => rfl, ?_, .refl w⟩, hi⟩
  · intro k r hr
    obtain ⟨e, he, rfl, rfl, hg⟩ := key k r hr
    rw [hg]; exact b.root _ _ hi e he
  · intro k k' r r' y hne hr hr' ho ho'
    obtain ⟨e, he, rfl, rfl, hg⟩ := key k r hr
    obtain ⟨e', he', rfl, rfl, hg'⟩ := key k' r' hr'
    rw [hg] at ho; rw [hg'] at ho'
    exact pairwise_all (r := fun e e' => ∀ b, Owns e.g b e.r → ¬ Owns e'.g b e'.r) (fun _ _ H b h1 h2 => H b h2 h1) b.disj e he e' he' (fun q => hne (by rw [q])) y ho ho'
  · intro k r y hr ho
    obtain ⟨e, he, rfl, rfl, hg⟩ := key k r hr
    rw [hg] at ho
    exact hBR y (b.own e he y ho)
  · intro k r y hr ho
    obtain ⟨e, he, rfl, rfl, hg⟩ := key k r hr
    rw [hg] at ho
    exact hB y (b.own e he y ho)
  · intro k r y hr ho
    obtain ⟨e, he, rfl, rfl, hg⟩ := key k r hr
    rw [hg] at ho
    exact .inr ⟨b.par e he, b.own e he y ho⟩
  · intro k r hr
    obtain ⟨e, he, rfl, rfl, hg⟩ := key k r hr
    rw [hg]
    have hpar : (ctxOf w R B es fz).par e.k = parOf (hp w) e := by
      simp only [ctxOf, find_mem hn he]
    obtain ⟨i, hi', hei⟩ := List.mem_iff_getElem.1 he
    obtain ⟨p, hp1, hp2⟩ := pe.at (i := i) (a := e) (by rw [List.getElem?_eq_getElem hi', hei])
    rcases hp2 with ⟨rows, q1, _⟩ | ⟨cells, y, arr, elem, q1, _, q3, q4⟩
    · rw [q1]
      refine ⟨rows, ?_, rfl, fun _ h => h⟩
      rw [hpar]; simp only [parOf, q1]; rfl
    · rw [q1]
      refine ⟨y, arr, arr, elem, ?_, q3, q4, rfl, fun _ _ _ _ => rfl⟩
      rw [hpar]; simp only [parOf, q1, q3, q4]
theorem outs_sound {X : Ctx} {st : St} {es : List Ent} {fz : Bool} {w0 : World} {R0 B : Nat → Prop} (hn0 : (es.map (·.k)).Nodup) (hX : X = ctxOf w0 R0 B es fz) (M : Mem X (get st.roots) w R γ) : ∀ {es1 : List Ent} {ps1 : List (PI.C × Value)}, Pw (PE (hp w0)) es1 ps1 → (∀ e ∈ es1, e ∈ es) → (es1.map (·.k)).Nodup →
    ∀ {outs : List PI.C}, outsOf st.roots (es1.map (·.k)) = some outs → ∃ Bo, Outs (hp w0) (hp w) Bo ps1 outs ∧ ∀ b, Bo b → ∃ k ∈ es1.map (·.k), ∃ r, get st.roots k = some r ∧ r.par = true ∧ Owns (γ k) b r
  | [], ps1, H, _, _, outs, ho => by
    cases H
    simp only [List.map_nil, outsOf, Option.some.injEq] at ho; subst ho
    exact ⟨fun _ => False, .nil, fun _ h => h.elim⟩
  | e :: es1, ps1, H, hsub, hn, outs, ho => by
    cases H with
    | @cons _ p _ ps1 hp1 H =>
      rw [List.map_cons, List.nodup_cons] at hn
      simp only [List.map_cons, outsOf] at ho
      have hpar : X.par e.k = parOf (hp w0) e := by
        rw [hX]; simp only [ctxOf, find_mem hn0 (hsub e (List.mem_cons_self ..))]
      have tail : ∀ {l}, outsOf st.roots (es1.map (·.k)) = some l → ∃ Bo, Outs (hp w0) (hp w) Bo ps1 l ∧ ∀ b, Bo b → ∃ k ∈ es1.map (·.k), ∃ r, get st.roots k = some r ∧ r.par = true ∧ Owns (γ k) b r :=
        fun hl => outs_sound hn0 hX M H (fun e he => hsub e (List.mem_cons_of_mem _ he)) hn.2 hl
      have fin : ∀ {l : List PI.C} {c : PI.C} {r : Root}, get st.roots e.k = some r → r.par = true → outsOf st.roots (es1.map (·.k)) = some l → Out1 (hp w0) (hp w) (fun b => Owns (γ e.k) b r) p c →
          ∃ Bo, Outs (hp w0) (hp w) Bo (p :: ps1) (c :: l) ∧ ∀ b, Bo b → ∃ k ∈ e.k :: es1.map (·.k), ∃ r, get st.roots k = some r ∧ r.par = true ∧ Owns (γ k) b r := by
        intro l c r hr hp2 hl o
        obtain ⟨Bo, h1, h2⟩ := tail hl
        refine ⟨fun b => Owns (γ e.k) b r ∨ Bo b, .cons o h1 (fun b hb hb' => ?_) (fun _ h => .inl h) (fun _ h => .inr h), ?_⟩
        · obtain ⟨k, hk, r', hr', _, ho'⟩ := h2 b hb'
          exact M.disj e.k k r r' b (fun q => hn.1 (q ▸ hk)) hr hr' hb ho'
        · rintro b (hb | hb)
          · exact ⟨e.k, List.mem_cons_self .., r, hr, hp2, hb⟩
          · obtain ⟨k, hk, q⟩ := h2 b hb
            exact ⟨k, List.mem_cons_of_mem _ hk, q⟩
      split at ho
      · rename_i v rows foc l hr hl
        injection ho with ho; subst ho
        refine fin hr rfl hl ?_
        have h0 := M.root e.k _ hr
        obtain ⟨rows0, p1, p2, p3⟩ := M.par e.k _ hr
        rw [hpar] at p1
        rcases hp1 with ⟨rs, q1, rfl⟩ | ⟨cells, y, arr, elem, q1, rfl, q3, q4⟩
        · simp only [parOf, q1, Option.some.injEq, Par.row.injEq] at p1
          obtain ⟨a1, a2, a3⟩ := p1
          have a3 : rs = rows0 := a3
          subst a3
          rw [a1, a2, p2]
          exact ⟨h0.1.sl_any, p3⟩
        · simp [parOf, q1, q3, q4] at p1
      · rename_i cells l hr hl
        injection ho with ho; subst ho
        refine fin hr rfl hl ?_
        obtain ⟨b', arr', elem', g1, g2, g3, g4, g5⟩ := M.root e.k _ hr
        obtain ⟨b, arr0, arr, elem, p1, p2, p3, p4, p5⟩ := M.par e.k _ hr
        rw [hpar] at p1
        rw [p2] at g1; injection g1 with g1; injection g1 with g1 _ _; subst g1
        rw [p3] at g4; injection g4 with g4; injection g4 with g4 _ _; subst g4
        rcases hp1 with ⟨rs, q1, rfl⟩ | ⟨cells0, y, arr1, elem1, q1, rfl, q3, q4⟩
        · simp [parOf, q1] at p1
        · simp only [parOf, q1, q3, q4, Option.some.injEq, Par.box.injEq] at p1
          obtain ⟨rfl, rfl⟩ := p1
          refine ⟨y, arr1, elem1, arr, elem, rfl, q4, p3, p4, by simpa using g5.len, g2, fun j c hj => ?_⟩
          cases hs : c.scalar with
          | true =>
            obtain ⟨v, hv, hl⟩ := g5.at hj
            exact .inl ⟨rfl, v, hv, scalar_sc hl hs⟩
          | false => exact .inr ⟨rfl, p5 j c hj hs⟩
      · cases ho
def Closed (γ : Gm) (rt : Rt) (used used' : List Nat) (b : Nat) : Prop := ∃ k ∈ used', k ∉ used ∧ ∃ r, rt k = some r ∧ r.par = false ∧ Owns (γ k) b r
theorem closeC_sound {X : Ctx} {nils : Bool} {used used' : List Nat} {st : St} {c c' : PI.C} {x : Value} (M : Mem X (get st.roots) w R γ) (H : closeC nils X.fz st.roots used c = some (c', used', true)) (hx : Leaf (hp w) R (get st.roots) γ c x) :
    Own (hp w) X.R0 (Closed γ (get st.roots) used used') [c'] [x] ∧ (∀ k ∈ used, k ∈ used') := by
  have ro : c.scalar = true → Own (hp w) X.R0 (Closed γ (get st.roots) used used') [c] [x] := by
    intro hs
    exact .ro (by cases c <;> simp_all [C.scalar, C.isSl]) (.sc (scalar_sc hx hs) .nil) .nil
  cases c <;> simp only [closeC, reduceCtorEq] at H
  case int => simp only [Option.some.injEq, Prod.mk.injEq, and_true] at H; obtain ⟨rfl, rfl⟩ := H; exact ⟨ro rfl, fun _ h => h⟩
  case bool => simp only [Option.some.injEq, Prod.mk.injEq, and_true] at H; obtain ⟨rfl, rfl⟩ := H; exact ⟨ro rfl, fun _ h => h⟩
  case str => simp only [Option.some.injEq, Prod.mk.injEq, and_true] at H; obtain ⟨rfl, rfl⟩ := H; exact ⟨ro rfl, fun _ h => h⟩
  case nil =>
    simp only [Option.some.injEq, Prod.mk.injEq, and_true] at H; obtain ⟨rfl, rfl⟩ := H
    have := VR_nil (h := hp w) (R := R) (rt := get st.roots) (γ := γ) hx; subst this
    refine ⟨?_, fun _ h => h⟩
    split
    · exact .ro rfl (.sc rfl .nil) .nil
    · exact .e .nil
  case rsl rows =>
    split at H
    · cases H
    · rename_i hf
      simp only [Option.some.injEq, Prod.mk.injEq, and_true] at H; obtain ⟨rfl, rfl⟩ := H
      have hx : Ro (hp w) R [.rsl rows] [x] := hx
      exact ⟨.ro rfl (hx.mono (fun b hb => M.rSame (by simpa using hf) b hb) fun _ _ => rfl) .nil, fun _ h => h⟩
  case ref k len =>
    split at H
    case h_2 => cases H
    rename_i vs rows foc hr
    split at H
    · cases H
    · rename_i hu
      simp only [Option.some.injEq, Prod.mk.injEq, decide_eq_true_eq] at H
      obtain ⟨rfl, rfl, hlen⟩ := H
      obtain ⟨a, cap, rfl, _, _, f⟩ := hx
      have hrows : rowsAt (get st.roots k) = some (eff rows foc) := by rw [hr]; rfl
      have hl : len = (eff rows foc).length := by rw [eff_len]; exact hlen.symm
      obtain ⟨e1, e2⟩ := (f _ hrows).2 hl
      subst e1; subst e2
      refine ⟨?_, fun _ h => List.mem_cons_of_mem _ h⟩
      have h0 := (M.root k _ hr).1
      rw [hl]
      exact (h0.sl_any (R' := X.R0)).wide fun b hb => ⟨k, List.mem_cons_self .., by simpa using hu, _, hr, rfl, hb⟩
theorem closed_step {rt : Rt} {u1 u2 u3 : List Nat} (s1 : ∀ k ∈ u1, k ∈ u2) (s2 : ∀ k ∈ u2, k ∈ u3) : (∀ b, Closed γ rt u1 u2 b → Closed γ rt u1 u3 b) ∧ (∀ b, Closed γ rt u2 u3 b → Closed γ rt u1 u3 b) :=
  ⟨fun _ ⟨k, h1, h2, h3⟩ => ⟨k, s2 k h1, h2, h3⟩, fun _ ⟨k, h1, h2, h3⟩ => ⟨k, h1, fun q => h2 (s1 k q), h3⟩⟩
theorem closed_apart {X : Ctx} {rt : Rt} {u1 u2 u3 : List Nat} (M : Mem X rt w R γ) : ∀ b, Closed γ rt u1 u2 b → ¬ Closed γ rt u2 u3 b := by
  rintro b ⟨k, h1, _, r, hr, _, ho⟩ ⟨k', _, h2', r', hr', _, ho'⟩
  exact M.disj k k' r r' b (fun e => h2' (e ▸ h1)) hr hr' ho ho'
theorem closeCs_sound {X : Ctx} {nils : Bool} {st : St} (M : Mem X (get st.roots) w R γ) : ∀ {cs cs' : List PI.C} {used used' : List Nat} {xs : List Value}, closeCs nils X.fz st.roots used cs = some (cs', used', true) → Pw (Leaf (hp w) R (get st.roots) γ) cs xs →
    Own (hp w) X.R0 (Closed γ (get st.roots) used used') cs' xs ∧ (∀ k ∈ used, k ∈ used')
  | [], cs', used, used', xs, H, hx => by
    simp only [closeCs, Option.some.injEq, Prod.mk.injEq, and_true] at H
    obtain ⟨rfl, rfl⟩ := H
    cases hx
    exact ⟨.nil, fun _ h => h⟩
  | c :: cs, cs', used, used', xs, H, hx => by
    cases hx with
    | cons hx hxs =>
      simp only [closeCs] at H
      split at H
      case h_2 => cases H
      rename_i c1 u1 b1 h1
      split at H
      case h_2 => cases H
      rename_i cs1 u2 b2 h2
      simp only [Option.some.injEq, Prod.mk.injEq, Bool.and_eq_true] at H
      obtain ⟨rfl, rfl, rfl, rfl⟩ := H
      obtain ⟨o1, s1⟩ := closeC_sound M h1 hx
      obtain ⟨o2, s2⟩ := closeCs_sound M h2 hxs
      obtain ⟨t1, t2⟩ := closed_step (γ := γ) (rt := get st.roots) s1 s2
      exact ⟨o1.app o2 (closed_apart M) t1 t2, fun k hk => s2 k (s1 k hk)⟩
theorem closeV_sound {X : Ctx} {nils : Bool} {used used' : List Nat} {st : St} {v v' : V} {x : Value} (M : Mem X (get st.roots) w R γ) (H : closeV nils X.fz st.roots used v = some (v', used', true)) (hx : VR (hp w) R (get st.roots) γ v x) :
    RV (hp w) X.R0 (Closed γ (get st.roots) used used') v' x ∧ (∀ k ∈ used, k ∈ used') := by
  unfold closeV at H
  split at H
  · rename_i k
    split at H
    case h_2 => cases H
    rename_i cells hr
    split at H
    · cases H
    rename_i hu
    split at H
    case h_2 => cases H
    rename_i cs u b hc
    simp only [Option.some.injEq, Prod.mk.injEq] at H
    obtain ⟨rfl, rfl, rfl⟩ := H
    obtain ⟨ad, rfl, _, f⟩ := hx
    obtain ⟨y, hy, rfl⟩ := f _ _ hr
    obtain ⟨y', arr, elem, g1, g2, g3, g4, g5⟩ := M.root k _ hr
    rw [hy] at g1; injection g1 with g1; injection g1 with g1 _ _; subst g1
    obtain ⟨o, s⟩ := closeCs_sound M hc g5
    have hu : k ∉ used := by simpa using hu
    refine ⟨⟨y, arr, elem, _, rfl, g4, o, ?_, ?_, ?_⟩, fun k' hk' => s k' (List.mem_cons_of_mem _ hk')⟩
    · rintro ⟨k', _, h2, r', hr', _, ho'⟩
      exact M.disj k k' _ r' y (fun e => h2 (e ▸ List.mem_cons_self ..)) hr hr' g2 ho'
    · exact ⟨k, s k (List.mem_cons_self ..), hu, _, hr, rfl, g2⟩
    · rintro b ⟨k', h1, h2, h3⟩
      exact ⟨k', h1, fun q => h2 (List.mem_cons_of_mem _ q), h3⟩
  · rename_i c hc
    split at H
    case h_2 => cases H
    rename_i c1 u1 b1 h1
    simp only [Option.some.injEq, Prod.mk.injEq] at H
    obtain ⟨rfl, rfl, rfl⟩ := H
    obtain ⟨o, s⟩ := closeC_sound M h1 hx
    refine ⟨?_, s⟩
    cases c1 <;> first | exact o | skip
    rename_i cells
    cases o with
    | ro _ r _ => exact (r.nokey (by simp [PI.sc]) (by simp [isRow]) (by simp)).elim
  · rename_i cs
    split at H
    case h_2 => cases H
    rename_i cs1 u1 b1 h1
    simp only [Option.some.injEq, Prod.mk.injEq] at H
    obtain ⟨rfl, rfl, rfl⟩ := H
    obtain ⟨arr, rfl, p⟩ := hx
    obtain ⟨o, s⟩ := closeCs_sound M h1 p
    exact ⟨⟨arr, rfl, o⟩, s⟩
  · cases H
theorem RV.wide {B B' : Nat → Prop} {v : V} {x : Value} (H : RV h R B v x) (s : ∀ b, B b → B' b) : RV h R B' v x := by
  cases v with
  | tup => exact H.elim
  | agg cs => obtain ⟨arr, rfl, o⟩ := H; exact ⟨arr, rfl, o.wide s⟩
  | one c =>
    cases c
    case pt => obtain ⟨b, arr, elem, B1, rfl, h1, h2, h3, h4, h5⟩ := H; exact ⟨b, arr, elem, B1, rfl, h1, h2, h3, s b h4, fun y hy => s y (h5 y hy)⟩
    all_goals exact Own.wide (B := B) H s
theorem closeVs_sound {X : Ctx} {nils : Bool} {st : St} (M : Mem X (get st.roots) w R γ) : ∀ {vs vs' : List V} {used : List Nat} {xs : List Value}, closeVs nils X.fz st.roots used vs = some (vs', true) → Pw (VR (hp w) R (get st.roots) γ) vs xs →
    ∃ used', RVs (hp w) X.R0 (Closed γ (get st.roots) used used') vs' xs ∧ (∀ k ∈ used, k ∈ used')
  | [], vs', used, xs, H, hx => by
    simp only [closeVs, Option.some.injEq, Prod.mk.injEq, and_true] at H
    subst H
    cases hx
    exact ⟨used, .nil, fun _ h => h⟩
  | v :: vs, vs', used, xs, H, hx => by
    cases hx with
    | cons hx hxs =>
      simp only [closeVs] at H
      split at H
      case h_2 => cases H
      rename_i v1 u1 b1 h1
      split at H
      case h_2 => cases H
      rename_i vs1 b2 h2
      simp only [Option.some.injEq, Prod.mk.injEq, Bool.and_eq_true] at H
      obtain ⟨rfl, rfl, rfl⟩ := H
      obtain ⟨o1, s1⟩ := closeV_sound M h1 hx
      obtain ⟨u2, o2, s2⟩ := closeVs_sound M h2 hxs
      obtain ⟨t1, t2⟩ := closed_step (γ := γ) (rt := get st.roots) s1 s2
      exact ⟨u2, .cons o1 o2 (closed_apart M) t1 t2, fun k hk => s2 k (s1 k hk)⟩
theorem gather_pw {α β : Type} {f : β → Option α} : ∀ {l : List β} {vs : List α}, gather (l.map f) = some vs → Pw (fun x v => f x = some v) l vs
  | [], vs, H => by simp only [List.map_nil, gather, Option.some.injEq] at H; subst H; exact .nil
  | x :: l, vs, H => by
    simp only [List.map_cons] at H
    cases hx : f x with
    | none => rw [hx] at H; simp [gather] at H
    | some v =>
      rw [hx] at H
      simp only [gather] at H
      split at H
      · rename_i l' hl
        injection H with H; subst H
        exact .cons hx (gather_pw hl)
      · cases H
def resOne (tmps : Array Value) : ResultVar → Sem Value
  | .tmp t => pure (tmps.getD t undef)
  | .cell b t => do loadVar t (← asAddr (tmps.getD b undef))
theorem results_eq (fn : Func) (tmps : Array Value) : results fn tmps = (do
    let vs ← fn.results.mapM (resOne tmps)
    pure (if h : vs.size = 1 then vs[0] else .tuple vs)) := rfl
theorem run_results {X : Ctx} {st : St} (M : Mem X (get st.roots) w R γ) (E : EnvR (hp w) R (get st.roots) γ st.env a.tmps) : ∀ {rs : List ResultVar} {ps : List PRes} {vs : List V}, resOk P rs ps = true → Pw (fun (p : PRes) v => p.get st = some v) ps vs →
    ∃ xs, (rs.mapM (resOne a.tmps)).run P w = .ok xs w ∧ Pw (VR (hp w) R (get st.roots) γ) vs xs
  | [], ps, vs, C, H => by
    cases ps with
    | cons => simp [resOk] at C
    | nil => cases H; exact ⟨[], rfl, .nil⟩
  | r :: rs, ps, vs, C, H => by
    cases H with
    | nil => cases r <;> simp [resOk] at C
    | @cons p v ps vs h0 H =>
      cases r with
      | tmp t =>
        cases p <;> simp only [resOk, Bool.and_eq_true, beq_iff_eq, Bool.false_eq_true] at C
        obtain ⟨rfl, C⟩ := C
        obtain ⟨xs, h1, h2⟩ := run_results M E C H
        obtain ⟨x, hx, hv⟩ := E _ _ h0
        refine ⟨x :: xs, ?_, .cons hv h2⟩
        rw [List.mapM_cons]
        have hg : a.tmps.getD t undef = x := by simp [Array.getD_eq_getD_getElem?, hx]
        simp only [resOne, Sem.run_bind, Sem.run_pure, Result.andThen_ok, hg, h1]
      | cell b t =>
        cases p <;> simp only [resOk, Bool.and_eq_true, beq_iff_eq, Bool.false_eq_true] at C
        rename_i b' agg sz
        obtain ⟨rfl, c1, c2, C⟩ := C
        obtain ⟨xs, h1, h2⟩ := run_results M E C H
        simp only [PRes.get] at h0
        split at h0
        case h_2 => cases h0
        rename_i k off hb
        split at h0
        case h_2 => cases h0
        rename_i q cells hr
        split at h0
        case isFalse => cases h0
        rename_i hle
        obtain ⟨x, hx, hv⟩ := E _ _ hb
        obtain ⟨ad, rfl, _, f⟩ := hv
        obtain ⟨y, hy, rfl⟩ := f _ _ hr
        obtain ⟨y', arr, elem, g1, g2, g3, g4, g5⟩ := M.root k _ hr
        rw [hy] at g1; injection g1 with g1; injection g1 with g1 _ _; subst g1
        obtain ⟨inf, hi, rfl⟩ := sizeIs_some c1
        obtain ⟨D, hD, ha⟩ := descIs_some c2
        obtain ⟨z, hz, hv⟩ := run_loadVar (P := P) hD hi (by simpa using ha) g4 (by have := g5.len; simp at this; omega) (g5.cut off inf.size) h0
        refine ⟨z :: xs, ?_, .cons hv h2⟩
        rw [List.mapM_cons]
        have hg : a.tmps.getD b undef = .pointer (some ⟨y, off, none⟩) := by simp [Array.getD_eq_getD_getElem?, hx]
        have hq : (asAddr (.pointer (some ⟨y, off, none⟩))).run P w = .ok ⟨y, off, none⟩ w := rfl
        simp only [resOne, Sem.run_bind, Sem.run_pure, Result.andThen_ok, hg, hq, hz, h1]
theorem leave_sound {X : Ctx} {pf : PFunc} {es : List Ent} {ps : List (PI.C × Value)} {w0 : World} {R0 B : Nat → Prop} {fn : Func} {st : St} {res : Res} (hn0 : (es.map (·.k)).Nodup) (hX : X = ctxOf w0 R0 B es pf.fz) (pe : Pw (PE (hp w0)) es ps)
    (C : resOk P fn.results.toList pf.res = true) (H : leave pf (es.map (·.k)) st = some (res, true)) (Rl : Rel X N st a w) : a.defers = [] ∧ ∃ x, (results fn a.tmps).run P w = .ok x w ∧ Post w0 R0 B ps res x w := by
  obtain ⟨R, γ, M, E, hdef, _⟩ := Rl
  refine ⟨hdef, ?_⟩
  unfold leave at H
  split at H
  · cases H
  rename_i vs hg
  split at H
  case h_2 => cases H
  rename_i vs' b outs hc ho
  simp only [Option.some.injEq, Prod.mk.injEq] at H
  obtain ⟨rfl, rfl⟩ := H
  obtain ⟨xs, hrun, hvs⟩ := run_results (P := P) M E C (gather_pw hg)
  have hfz : X.fz = pf.fz := by rw [hX]; rfl
  have hw0 : X.w0 = w0 := by rw [hX]; rfl
  have hR0 : X.R0 = R0 := by rw [hX]; rfl
  have hPB : X.PB = B := by rw [hX]; rfl
  rw [← hfz] at hc
  obtain ⟨used', hrv, _⟩ := closeVs_sound M hc hvs
  obtain ⟨Bo, hO, hBo⟩ := outs_sound hn0 hX M pe (fun _ h => h) hn0 ho
  have hrun2 : (results fn a.tmps).run P w = .ok (if h : xs.length = 1 then xs.toArray[0]'(by simp [h]) else .tuple xs.toArray) w := by
    rw [results_eq, Array.mapM_eq_mapM_toList]
    simp only [Sem.run_bind, map_eq_pure_bind, hrun, Result.andThen_ok, Sem.run_pure]
    congr 1
  refine ⟨_, hrun2, Closed γ (get st.roots) [] used', Bo, ?_, hO, ?_, ?_, ?_, ?_, ?_⟩
  · rw [← hR0]
    cases hrv with
    | nil => exact ⟨#[], rfl, .nil⟩
    | @cons _ B1 B2 v x vs' xs o t hd s1 s2 =>
      cases t with
      | nil =>
        have := o.wide s1
        simp only [List.length_cons, List.length_nil, dif_pos, tupV]
        cases v with
        | tup => exact this.elim
        | one c => exact this
        | agg cs => exact this
      | cons o2 t2 d2 s3 s4 =>
        rw [dif_neg (by simp)]
        exact ⟨_, rfl, .cons o (.cons o2 t2 d2 s3 s4) hd s1 s2⟩
  · rintro b ⟨k, _, _, r, hr, hp1, ho1⟩ hb
    obtain ⟨k', _, r', hr', hp2, ho2⟩ := hBo b hb
    refine M.disj k k' r r' b ?_ hr hr' ho1 ho2
    rintro rfl
    rw [hr] at hr'; injection hr' with hr'; subst hr'
    rw [hp1] at hp2; cases hp2
  · rintro b ⟨k, _, _, r, hr, hp1, ho1⟩
    refine ⟨?_, M.ownLt k r b hr ho1⟩
    rcases M.ownIn k r b hr ho1 with q | ⟨q, _⟩
    · rw [← hw0]; exact q
    · rw [hp1] at q; cases q
  · intro b hb
    obtain ⟨k, _, r, hr, _, ho1⟩ := hBo b hb
    refine ⟨?_, M.ownLt k r b hr ho1⟩
    rcases M.ownIn k r b hr ho1 with q | ⟨_, q⟩
    · rw [← hw0]; exact .inr q
    · rw [← hPB]; exact .inl q
  · intro b hb hnb
    rw [← hw0]
    exact M.frame b (by rw [hw0]; exact hb) (by rw [hPB]; exact hnb)
  · rw [← hw0]; exact M.alike
theorem AR.len {B : Nat → Prop} {fs : List Bool} {vs : List V} {xs : List Value} {ps : List (PI.C × Value)} (H : AR h R B fs vs xs ps) : vs.length = xs.length := by
  induction H with
  | nil => rfl
  | ro _ _ _ ih => simp [ih]
  | own _ _ _ _ _ _ ih => simp [ih]
theorem pfun_sound (hm : P.follows .mixedOrders = true) {funcs : Nat → Option PFunc} {own : Nat → List Bool} {n : Nat} (hok : ∀ f pf, funcs f = some pf → okFunc P own f pf = true) (hcall : CallsOk P own call) : CallsOk P own (pfun funcs own call (lpN n)) := by
  intro f args res H
  unfold pfun at H
  split at H
  · cases H
  rename_i pf hpf
  have C := hok f pf hpf
  split at H
  case isFalse => cases H
  rename_i hlen
  split at H
  case h_2 => cases H
  rename_i e st hex
  split at H
  case isFalse => cases H
  rename_i hend
  unfold okFunc at C
  split at C
  case h_2 => cases C
  rename_i fn hfn
  simp only [Bool.and_eq_true, beq_iff_eq, decide_eq_true_eq] at C
  obtain ⟨C1, C2, C3, C4, C5⟩ := C
  split at C4
  case h_2 => cases C4
  rename_i c hbody
  refine ⟨⟨fn, hfn, by simpa using C3, by rw [hbody]; rfl⟩, ?_⟩
  intro w R B xs ps har hBR hB hR
  have hl := har.len
  rw [C1] at har
  obtain ⟨es, e1, e2, b, pe, hn, _, henv⟩ := enter_ents har (i := 0) (by rw [hlen]; omega)
  obtain ⟨M, hi⟩ := begin_mem (fz := pf.fz) hn b pe hBR hB hR
  refine calls_of_wp hfn hbody ?_
  have Rl : Rel (ctxOf w R B es pf.fz) fn.ntmps ⟨(enter pf.own 0 args).1, (enter pf.own 0 args).2.1⟩ { tmps := xs.toArray ++ Array.replicate (fn.ntmps - xs.toArray.size) undef, defers := [] } w := by
    refine ⟨R, gOf (fun _ => nilGk) es, ?_, ?_, rfl, ?_⟩
    · simp only [e1]; exact M
    · simp only [e1]
      intro m v hv
      obtain ⟨j, x, rfl, hx, hr⟩ := henv _ _ hi m v hv
      refine ⟨x, ?_, hr⟩
      have hj : j < xs.length := lt_of_at hx
      rw [Nat.zero_add, Array.getElem?_append_left (by simpa using hj)]
      simpa using hx
    · simp; omega
  refine wp_mono (exec_sound (X := ctxOf w R B es pf.fz) (cfg := ⟨own, pf.fz⟩) hm hcall rfl C4 hex Rl) ?_
  rintro ex a' w' ⟨rfl, Rl'⟩
  have hch : leave pf (es.map (·.k)) st = some (res, true) := by
    rw [e2] at H
    unfold chkd at H
    split at H
    · rename_i x hx; injection H with H; subst H; exact hx
    · cases H
  obtain ⟨h1, x, h2, h3⟩ := leave_sound (P := P) hn rfl pe C5 hch Rl'
  cases e with
  | normal => exact ⟨h1, x, h2, x, rfl, h3⟩
  | ret => exact ⟨h1, x, h2, x, rfl, h3⟩
  | exit m => simp [isEnd] at hend
theorem both_sound {g : Nat → List V → Option Res} {own : Nat → List Bool} (hg : CallsOk P own g) {f : Nat} {args : List V} {res : Res} (H : both ((own f).headD false) (g f) args = some res) : Callable P f ∧ Good P own f args res := by
  unfold both at H
  split at H
  case h_2 => cases H
  split at H
  case h_2 => cases H
  rename_i h0 h1 h2
  injection H with H; subst H
  refine ⟨(hg _ _ _ h1).1, ?_⟩
  intro w R B xs ps har hBR hB hR
  have key : ∀ {x : Value}, Ro (hp w) R [.rsl []] [x] → ∃ b, Ro (hp w) R [.em b] [x] := by
    intro x hx
    obtain ⟨a, cap, rfl⟩ : ∃ a cap, x = .slice a 0 cap := by
      cases hx with
      | sc s _ => exact s.elim
      | e s _ => exact ⟨_, _, rfl⟩
      | row s h => rcases s with s | s <;> cases s; exact absurd rfl h
    exact ⟨_, .sc ⟨a, cap, rfl, rfl⟩ .nil⟩
  have gb : ∀ b, Good P own f [.one (.em b)] (.one (.sl []), []) := fun b => by
    cases b
    · exact (hg _ _ _ h2).2
    · exact (hg _ _ _ h1).2
  generalize hof : own f = fs at har h0
  cases har with
  | ro q r t =>
    generalize fs.tail = ft at t
    cases t
    obtain ⟨b, hb⟩ := key r
    exact gb b w R B _ _ (by rw [hof]; exact .ro q hb .nil) hBR hB hR
  | own r hp t hd s1 s2 => simp at h0
theorem sound (hm : P.follows .mixedOrders = true) {funcs : Nat → Option PFunc} {own : Nat → List Bool} (hok : ∀ f pf, funcs f = some pf → okFunc P own f pf = true) : ∀ n, CallsOk P own (pcN funcs own n)
  | 0 => by intro f args res H; simp [pcN] at H
  | n + 1 => by
    have := pfun_sound (n := n + 1) hm hok (sound hm hok n)
    intro f args res H
    simp only [pcN, orElse] at H
    split at H
    · rename_i h1; injection H with H; subst H; exact this f args _ h1
    · exact both_sound this H
end
end Go.Proofs.Ytdgamfanffnhaaa.PI

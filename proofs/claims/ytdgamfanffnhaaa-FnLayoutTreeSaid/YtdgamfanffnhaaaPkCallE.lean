/-
  What comes back from a call, and that PI's call is the machine's. No condition.
-/
import Derived.Test.YtdgamfanffnhaaaPkCallD
set_option linter.unusedVariables false
set_option linter.unusedSimpArgs false
namespace Go.Proofs.Ytdgamfanffnhaaa.PI
open Go
section
variable {P : Program} {X : Ctx} {rt : Rt} {w w' : World} {R R' : Nat → Prop} {γ γ' : Gm} {h h' : Hp}
inductive PZ (h : Hp) (rt : Rt) (γ : Gm) (Z : Nat → Prop) : List Take → List (C × Value) → Prop
  | nil : PZ h rt γ Z [] []
  | cons {F G t c x ts ps} : Piece h rt γ F G t c x → (∀ b, G b → ¬ Z b) → PZ h rt γ Z ts ps → PZ h rt γ Z (t :: ts) ((c, x) :: ps)
theorem PS.toPZ (M : Mem X rt w R γ) {B : Nat → Prop} {ts : List Take} {ps : List (PI.C × Value)} (H : PS h rt γ B ts ps) : (ts.map Take.key).Nodup → ∀ {Z : Nat → Prop}, (∀ b, Z b → B b ∨ ∃ k, k ∉ ts.map Take.key ∧ OwnedBy rt γ k b) → PZ h rt γ Z ts ps := by
  induction H with
  | nil => exact fun _ _ _ => .nil
  | @cons B F G t c x ts ps p q ih =>
    intro hn Z hZ
    rw [List.map_cons, List.nodup_cons] at hn
    refine .cons p (fun b hb hz => ?_) (ih hn.2 fun b hz => ?_)
    · rcases hZ b hz with (hf | hB) | ⟨k, hk, ho⟩
      · exact p.own.2.2 b hf hb
      · obtain ⟨t', ht', ho⟩ := q.sub b hB
        exact OwnedBy.apart M (k := t.key) (k' := t'.key) (fun e => hn.1 (e ▸ List.mem_map_of_mem ht')) (p.own.2.1 b hb) ho
      · exact OwnedBy.apart M (k := t.key) (k' := k) (fun e => hk (e ▸ List.mem_cons_self ..)) (p.own.2.1 b hb) ho
    · rcases hZ b hz with (hf | hB) | ⟨k, hk, ho⟩
      · exact .inr ⟨_, hn.1, p.own.1 b hf⟩
      · exact .inl hB
      · exact .inr ⟨k, fun e => hk (List.mem_cons_of_mem _ e), ho⟩
theorem mergeBox_at : ∀ {old new cells : List PI.C}, mergeBox old new = some cells → old.length = cells.length ∧ new.length = cells.length ∧ ∀ (j : Nat) (c : PI.C), cells[j]? = some c →
    (c.scalar = true ∧ new[j]? = some c) ∨ (c.scalar = false ∧ old[j]? = some c ∧ ∃ c', new[j]? = some c' ∧ c'.scalar = false)
  | [], [], cells, H => by
    simp only [mergeBox, Option.some.injEq] at H; subst H; simp
  | [], _ :: _, cells, H => by simp [mergeBox] at H
  | c :: _, [], cells, H => by cases c <;> simp [mergeBox] at H
  | o :: old, n :: new, cells, H => by
    have plain : (if o.scalar && n.scalar then (mergeBox old new).map (n :: ·) else none) = some cells → old.length + 1 = cells.length ∧ new.length + 1 = cells.length ∧ ∀ (j : Nat) (c : PI.C), cells[j]? = some c →
        (c.scalar = true ∧ (n :: new)[j]? = some c) ∨ (c.scalar = false ∧ (o :: old)[j]? = some c ∧ ∃ c', (n :: new)[j]? = some c' ∧ c'.scalar = false) := by
      intro H
      split at H
      · rename_i hs
        simp only [Bool.and_eq_true] at hs
        cases hm : mergeBox old new with
        | none => rw [hm] at H; simp at H
        | some l =>
          rw [hm] at H; simp only [Option.map_some, Option.some.injEq] at H; subst H
          obtain ⟨h1, h2, h3⟩ := mergeBox_at hm
          refine ⟨by simp [h1], by simp [h2], fun j c hj => ?_⟩
          cases j with
          | zero => simp at hj; subst hj; exact .inl ⟨hs.2, rfl⟩
          | succ j => simp at hj; simpa using h3 j c hj
      · cases H
    by_cases ho : ∃ rows rows', o = .rsl rows ∧ n = .rsl rows'
    · obtain ⟨rows, rows', rfl, rfl⟩ := ho
      simp only [mergeBox] at H
      cases hm : mergeBox old new with
      | none => rw [hm] at H; simp at H
      | some l =>
        rw [hm] at H; simp only [Option.map_some, Option.some.injEq] at H; subst H
        obtain ⟨h1, h2, h3⟩ := mergeBox_at hm
        refine ⟨by simp [h1], by simp [h2], fun j c hj => ?_⟩
        cases j with
        | zero => simp at hj; subst hj; exact .inr ⟨rfl, rfl, _, rfl, rfl⟩
        | succ j => simp at hj; simpa using h3 j c hj
    · have e : mergeBox (o :: old) (n :: new) = if o.scalar && n.scalar then (mergeBox old new).map (n :: ·) else none := by
        cases o <;> first | rfl | (cases n <;> first | rfl | exact absurd ⟨_, _, rfl, rfl⟩ ho)
      rw [e] at H
      exact plain H
theorem back_one (M : Mem X rt w R γ) {F F' G : Nat → Prop} {t : Take} {c c' : PI.C} {x : Value} {ts : List Take} {cs : List PI.C} {back : Ups} (Q : Piece (hp w) rt γ F G t c x) (O : Out1 (hp w) h' F' (c, x) c') (H : giveBack (t :: ts) (c' :: cs) = some back)
    (hG : ∀ b, G b → h' b = hp w b) (hR : ∀ b, R b → h' b = hp w b) (hFG : ∀ b, F' b → ¬ G b) :
    ∃ (e : Ent) (back' : Ups), e.k = t.key ∧ back = (e.k, some e.r) :: back' ∧ giveBack ts cs = some back' ∧ (∀ r, rt e.k = some r → Ext (hp w) h' (γ e.k) e.g r e.r ∧ r.par = e.r.par) ∧ (∀ b, Owns e.g b e.r → F' b ∨ G b) ∧
      (∀ R'' rt'' γ'', (∀ b, R b → R'' b) → RootR h' R'' rt'' γ'' e.g e.r) ∧ ParR h' X e.k e.g e.r := by
  cases t with
  | row k par vs =>
    obtain ⟨rows, foc, hr, rfl, rfl, _, _⟩ := Q
    cases c' <;> simp only [giveBack, reduceCtorEq] at H
    rename_i rows'
    cases hb : giveBack ts cs with
    | none => rw [hb] at H; simp at H
    | some back' =>
      rw [hb] at H; simp only [Option.map_some, Option.some.injEq] at H; subst H
      obtain ⟨o, hu⟩ := O
      have hlen := o.inv.1
      refine ⟨⟨k, .row par (vs + 1) rows' none, ⟨(γ k).addr, (γ k).cap, F'⟩⟩, back', rfl, rfl, rfl, ?_, fun b hb => .inl hb, ?_, ?_⟩
      · intro r hr2
        simp only at hr2
        rw [hr] at hr2; injection hr2 with hr2; subst hr2
        exact ⟨⟨⟨Nat.le_of_eq hlen, fun _ => ⟨rfl, rfl, hu⟩⟩, Nat.le_succ _, fun e => absurd e (by simp)⟩, rfl⟩
      · intro R'' rt'' γ'' _
        refine ⟨?_, by simp⟩
        have := o.sl_any (R' := R'')
        show Own h' R'' F' [.sl rows'] [.slice (γ k).addr rows'.length (γ k).cap]
        rw [hlen] at this; exact this
      · cases par with
        | false => trivial
        | true =>
          obtain ⟨rows0, p1, p2, p3⟩ := M.par k _ hr
          exact ⟨rows0, p1, p2.trans hlen, fun s hs => hu s (p3 s hs)⟩
  | nrow k par vs base i el j =>
    obtain ⟨rows, foc, rs, hr, he, hbase, hbl, hrs, rfl, o0, _, _, _, hga, put⟩ := Q
    cases c' <;> simp only [giveBack, reduceCtorEq] at H
    rename_i rs'
    cases hb : giveBack ts cs with
    | none => rw [hb] at H; simp at H
    | some back' =>
      rw [hb] at H; simp only [Option.map_some, Option.some.injEq] at H; subst H
      obtain ⟨o, _⟩ := O
      have hlen : ((eff rows foc).set i (el.set j (.sl rs'))).length = (eff rows foc).length := by simp
      have heff : eff base (some (i, el.set j (.sl rs'))) = (eff rows foc).set i (el.set j (.sl rs')) := by
        show base.set i _ = _; exact hbase _
      have huni : ∀ s, (∀ z ∈ eff rows foc, z.length = s) → ∀ z ∈ (eff rows foc).set i (el.set j (.sl rs')), z.length = s := by
        intro s hs z hz
        rcases List.mem_or_eq_of_mem_set hz with q | q
        · exact hs z q
        · rw [q]; simpa using hs el (List.mem_of_getElem? he)
      refine ⟨⟨k, .row par vs base (some (i, el.set j (.sl rs'))), ⟨(γ k).addr, (γ k).cap, fun b => F' b ∨ G b⟩⟩, back', rfl, rfl, rfl, ?_, fun b hb => hb, ?_, ?_⟩
      · intro r hr2
        simp only at hr2
        rw [hr] at hr2; injection hr2 with hr2; subst hr2
        refine ⟨⟨?_, Nat.le_refl _, fun _ i2 j2 v2 hN => ?_⟩, rfl⟩
        · rw [heff]; exact ⟨by simp, fun _ => ⟨rfl, rfl, huni⟩⟩
        · rw [heff]
          obtain ⟨hs, hi2, b2, sz2, arr2, elem2, u2, hj2, ha2, hb2, hx2⟩ := hN
          obtain ⟨b3, ha3, hb3⟩ := hga
          have : b3 = b2 := by rw [ha2] at ha3; injection ha3 with ha3; injection ha3 with ha3 _ _; exact ha3.symm
          subst this
          exact ⟨hs, by rw [hlen]; exact hi2, b3, sz2, arr2, elem2, huni _ u2, hj2, ha2, (hG b3 hb3).trans hb2, hx2⟩
      · intro R'' rt'' γ'' _
        refine ⟨?_, fun j' el' hj => ?_⟩
        · have := (put h' F' (fun b => F' b ∨ G b) rs' hG o hFG (fun _ h => .inl h) (fun _ h => .inr h)).sl_any (R' := R'')
          rw [heff, hlen]; exact this
        · simp only [Option.some.injEq, Prod.mk.injEq] at hj
          rw [← hj.1, hbl, ← eff_len rows foc]; exact lt_of_at he
      · cases par with
        | false => trivial
        | true =>
          obtain ⟨rows0, p1, p2, p3⟩ := M.par k _ hr
          refine ⟨rows0, p1, ?_, fun s hs => ?_⟩
          · rw [heff, hlen]; exact p2
          · rw [heff]; exact huni s (p3 s hs)
  | box k par cells =>
    obtain ⟨hr, rfl, hpl, ⟨b, hga, rfl⟩, _, _⟩ := Q
    cases c' <;> simp only [giveBack, reduceCtorEq] at H
    rename_i new
    cases hm : mergeBox cells new with
    | none => rw [hm] at H; simp at H
    | some cells' =>
      rw [hm] at H
      simp only at H
      cases hb : giveBack ts cs with
      | none => rw [hb] at H; simp at H
      | some back' =>
        rw [hb] at H; simp only [Option.map_some, Option.some.injEq] at H; subst H
        obtain ⟨b', arr, elem, arr', elem', hx, hb1, hb2, hsz, hlen, hF, hcell⟩ := O
        injection hx with hx; injection hx with hx; injection hx with hx _ _; subst hx
        obtain ⟨m1, m2, m3⟩ := mergeBox_at hm
        obtain ⟨b', arr0, elem0, g1, g2, g3, g4, g5⟩ := M.root k _ hr
        rw [hga] at g1; injection g1 with g1; injection g1 with g1 _ _; subst g1
        rw [hb1] at g4; injection g4 with g4; injection g4 with g4 _ _; subst g4
        have old : ∀ (j : Nat) (c : PI.C), cells'[j]? = some c → c.scalar = false → cells[j]? = some c ∧ arr'.toList[j]? = arr.toList[j]? := by
          intro j c hj hs
          rcases m3 j c hj with ⟨q, _⟩ | ⟨_, q2, c', q3, q4⟩
          · rw [q] at hs; cases hs
          · rcases hcell j c' q3 with ⟨z, _⟩ | ⟨_, z⟩
            · rw [q4] at z; cases z
            · exact ⟨q2, z⟩
        refine ⟨⟨k, .box par cells', ⟨(γ k).addr, (γ k).cap, fun y => y = b⟩⟩, back', rfl, rfl, rfl, ?_, ?_, ?_, ?_⟩
        · intro r hr2
          simp only at hr2
          rw [hr] at hr2; injection hr2 with hr2; subst hr2
          exact ⟨rfl, rfl⟩
        · intro y hy
          have : y = b := hy
          subst this; exact .inl hF
        · intro R'' rt'' γ'' hR''
          refine ⟨b, arr', elem', hga, rfl, fun _ h => h, hb2, Pw.of (by rw [← m2, hlen]; simp) fun j c v hj hv => ?_⟩
          rcases m3 j c hj with ⟨q1, q2⟩ | ⟨q1, _⟩
          · rcases hcell j c q2 with ⟨_, v', hv', hsc⟩ | ⟨z, _⟩
            · rw [hv] at hv'; injection hv' with hv'; subst hv'
              exact ro_leaf (.sc hsc .nil) (by cases c <;> simp_all [C.scalar, C.isSl])
            · rw [q1] at z; cases z
          · obtain ⟨z1, z2⟩ := old j c hj q1
            rw [z2] at hv
            obtain ⟨v', hv', hl⟩ := g5.at z1
            rw [hv] at hv'; injection hv' with hv'; subst hv'
            obtain ⟨r1, r2⟩ := plainRo_leaf hl (List.all_eq_true.1 hpl c (List.mem_of_getElem? z1))
            exact ro_leaf (r2.mono hR'' hR) r1
        · cases par with
          | false => trivial
          | true =>
            obtain ⟨b', arr0, arr1, elem1, p1, p2, p3, p4, p5⟩ := M.par k _ hr
            rw [hga] at p2; injection p2 with p2; injection p2 with p2 _ _; subst p2
            rw [hb1] at p3; injection p3 with p3; injection p3 with p3 _ _; subst p3
            refine ⟨b, arr0, arr', elem', p1, hga, hb2, hsz.trans p4, fun j c hj hs => ?_⟩
            obtain ⟨z1, z2⟩ := old j c hj hs
            rw [z2]; exact p5 j c z1 hs
theorem backs (M : Mem X rt w R γ) {Z : Nat → Prop} {ts : List Take} {ps : List (PI.C × Value)} (Q : PZ (hp w) rt γ Z ts ps) : ∀ {Bo : Nat → Prop} {cs : List PI.C} {back : Ups}, Outs (hp w) h' Bo ps cs → giveBack ts cs = some back → (ts.map Take.key).Nodup →
    (∀ b, b < w.heap.size → ¬ Z b → h' b = hp w b) → (∀ b, R b → h' b = hp w b) → (∀ b, Bo b → Z b ∨ w.heap.size ≤ b) →
    ∃ es : List Ent, back = upsOf es ∧ es.map (·.k) = ts.map Take.key ∧ (∀ e ∈ es, (∀ r, rt e.k = some r → Ext (hp w) h' (γ e.k) e.g r e.r ∧ r.par = e.r.par) ∧ (∀ R'' rt'' γ'', (∀ b, R b → R'' b) → RootR h' R'' rt'' γ'' e.g e.r) ∧ ParR h' X e.k e.g e.r ∧
        (∀ b, Owns e.g b e.r → Bo b ∨ (OwnedBy rt γ e.k b ∧ ¬ Z b)) ∧ ∃ r, rt e.k = some r) ∧ es.Pairwise (fun e e' => ∀ b, Owns e.g b e.r → ¬ Owns e'.g b e'.r) := by
  induction Q with
  | nil =>
    intro Bo cs back O H _ _ _ _
    cases O
    simp only [giveBack, Option.some.injEq] at H; subst H
    exact ⟨[], rfl, rfl, by simp, .nil⟩
  | @cons F G t c x ts ps p hGZ q ih =>
    intro Bo cs back O H hn hsame hR hBo
    cases O with
    | @cons _ B1 B2 _ c' _ cs o O hd s1 s2 =>
      rw [List.map_cons, List.nodup_cons] at hn
      have glt : ∀ b, G b → b < w.heap.size := by
        intro b hb
        obtain ⟨r, hr, ho⟩ := p.own.2.1 b hb
        exact M.ownLt t.key r b hr ho
      obtain ⟨e, back', e1, rfl, e3, e4, e5, e6, e7⟩ := back_one M p o H (fun b hb => hsame b (glt b hb) (hGZ b hb)) hR (fun b hb hg => by
        rcases hBo b (s1 b hb) with z | z
        · exact hGZ b hg z
        · exact absurd (glt b hg) (Nat.not_lt.2 z))
      obtain ⟨es, f1, f2, f3, f4⟩ := ih O e3 hn.2 hsame hR (fun b hb => hBo b (s2 b hb))
      refine ⟨e :: es, by rw [f1]; rfl, by rw [List.map_cons, List.map_cons, e1, f2], ?_, ?_⟩
      · intro e' he'
        rcases List.mem_cons.1 he' with rfl | he'
        · refine ⟨e4, e6, e7, fun b hb => ?_, ?_⟩
          · rcases e5 b hb with z | z
            · exact .inl (s1 b z)
            · exact .inr ⟨by rw [e1]; exact p.own.2.1 b z, hGZ b z⟩
          · rw [e1]
            cases t with
            | row => obtain ⟨_, _, hr, _⟩ := p; exact ⟨_, hr⟩
            | nrow => obtain ⟨_, _, _, hr, _⟩ := p; exact ⟨_, hr⟩
            | box => exact ⟨_, p.1⟩
        · obtain ⟨a1, a2, a3, a4, a5⟩ := f3 e' he'
          refine ⟨a1, a2, a3, fun b hb => ?_, a5⟩
          rcases a4 b hb with z | z
          · exact .inl (s2 b z)
          · exact .inr z
      · rw [List.pairwise_cons]
        refine ⟨fun e' he' b hb hb' => ?_, f4⟩
        have hk : e'.k ≠ t.key := by
          intro he
          refine hn.1 ?_
          rw [← f2, ← he]; exact List.mem_map_of_mem he'
        rcases e5 b hb with z | z <;> rcases (f3 e' he').2.2.2.1 b hb' with y | ⟨y1, y2⟩
        · exact hd b z y
        · rcases hBo b (s1 b z) with k | k
          · exact y2 k
          · obtain ⟨r, hr, ho⟩ := y1
            exact absurd (M.ownLt _ _ _ hr ho) (Nat.not_lt.2 k)
        · rcases hBo b (s2 b y) with k | k
          · exact hGZ b z k
          · exact absurd (glt b z) (Nat.not_lt.2 k)
        · exact OwnedBy.apart M hk y1 (p.own.2.1 b z)
theorem freeze_run {call : Nat → List V → Option Res} (M : Mem X rt w R γ) : ∀ {ks : List Nat} {K : Ups → RM} {v : V} {u : Ups} {l : List Nat}, (freeze ks K).run call rt = some (v, u, l) →
    ∃ (es : List Ent) (l' : List Nat), es.map (·.k) = ks ∧ (∀ e ∈ es, e.g = γ e.k ∧ ∃ rows, e.r = .frow rows ∧ rowsAt (rt e.k) = some rows ∧ ((∃ vs rs foc, rt e.k = some (.row false vs rs foc) ∧ rows = eff rs foc) ∨ rt e.k = some (.frow rows))) ∧ (K (upsOf es)).run call rt = some (v, u, l')
  | [], K, v, u, l, H => ⟨[], l, rfl, by simp, H⟩
  | k :: ks, K, v, u, l, H => by
    simp only [freeze] at H
    obtain ⟨r, l1, hr, H⟩ := rd_run H
    split at H
    · rename_i vs rs foc
      obtain ⟨es, l2, h1, h2, H⟩ := freeze_run M H
      refine ⟨⟨k, .frow (eff rs foc), γ k⟩ :: es, l2, by simp [h1], fun e he => ?_, H⟩
      rcases List.mem_cons.1 he with rfl | he
      · exact ⟨rfl, _, rfl, by rw [hr]; rfl, .inl ⟨_, _, _, hr, rfl⟩⟩
      · exact h2 e he
    · obtain ⟨es, l2, h1, h2, H⟩ := freeze_run M H
      refine ⟨⟨k, .frow _, γ k⟩ :: es, l2, by simp [h1], fun e he => ?_, H⟩
      rcases List.mem_cons.1 he with rfl | he
      · exact ⟨rfl, _, rfl, by rw [hr]; rfl, .inr hr⟩
      · exact h2 e he
    · exact (fail_run H).elim
end
end Go.Proofs.Ytdgamfanffnhaaa.PI

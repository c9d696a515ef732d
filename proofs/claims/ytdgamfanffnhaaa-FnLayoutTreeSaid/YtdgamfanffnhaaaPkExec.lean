/-
  Drawn regions, loops, code: what PI does the machine does. No condition but that the machine draws its orders freely (P.follows .mixedOrders).
-/
import Derived.Test.YtdgamfanffnhaaaPkDraw
set_option linter.unusedVariables false
set_option linter.unusedSimpArgs false
namespace Go.Proofs.Ytdgamfanffnhaaa.PI
open Go
def drawOk (P : Program) (N : Nat) (ops : Array Oper) (pos : List (PO × List Nat)) : Bool :=
  ops.size == pos.length && (List.range ops.size).all fun j => match ops[j]?, pos[j]? with
    | some x, some (o, pre) => poOk P N ops x o && (x.after.all (fun e => !Region.binds .any e || decide (e.on < j)) &&
        (pre.all (fun k => x.after.any fun e => Region.binds .any e && (e.on == k || (match pos[e.on]? with
          | some q => q.2.contains k
          | none => false))) &&
        (List.range j).all (fun i => pre.contains i || (match pos[i]? with
          | some q => apartPO q.1 o
          | none => false))))
    | _, _ => false
section
variable {P : Program} {X : Ctx} {rt rt' : Rt} {w w' : World} {R R' : Nat → Prop} {γ γ' : Gm} {h h' : Hp} {env : List (Nat × V)} {a : Act} {call : Nat → List V → Option Res} {cfg : Cfg} {N : Nat}
theorem Rel.congr {st st' : St} (q : SEq st st') (H : Rel X N st a w) : Rel X N st' a w := by
  obtain ⟨R, γ, M, E, hd, hN⟩ := H
  refine ⟨R, γ, q.2 ▸ M, ?_, hd, hN⟩
  intro n v hv
  rw [← q.1] at hv
  rw [← q.2]; exact E n v hv
theorem Mem.drawn (M : Mem X rt w R γ) (n : Nat) : Mem X rt { w with drawn := n } R γ :=
  ⟨M.root, M.disj, M.ownR, M.ownLt, M.ownIn, M.rLt, M.rIn, M.r0, M.rSame, M.frame, M.par, ⟨M.alike.tape, M.alike.os, M.alike.output, M.alike.size⟩⟩
theorem Rel.drawn {st : St} (H : Rel X N st a w) (n : Nat) : Rel X N st a { w with drawn := n } := by
  obtain ⟨R, γ, M, E, hd, hN⟩ := H
  exact ⟨R, γ, M.drawn n, E, hd, hN⟩
theorem draw_any {ops : Array Oper} {Q : Exit → Act → World → Prop} {pos : List (PO × List Nat)} {st' : St} (hcall : CallsOk P cfg.own call) (hfz : cfg.fz = X.fz) (hok : drawOk P N ops pos = true) (hQ : ∀ a' w', Rel X N st' a' w' → Q .normal a' w') :
    ∀ (fuel : Nat) (L : List It) (listed : Array Bool) (st : St) (a : Act) (w : World), L.length = fuel → Rel X N st a w → Run call cfg L st st' → listed.size = ops.size →
      (∀ j, j < ops.size → (listed.getD j true = false ↔ ∃ x ∈ L, x.i = j)) → (∀ x ∈ L, x.i < ops.size ∧ (pos[x.i]?).map (·.1) = some x.o) →
      L.Pairwise (fun y x => y.i < x.i ∧ ∀ pre, (pos[x.i]?).map (·.2) = some pre → y.i ∈ pre ∨ clash y.t x.t = false) →
      (∀ j, j < ops.size → listed.getD j true = true → ∀ pre, (pos[j]?).map (·.2) = some pre → ∀ k ∈ pre, listed.getD k false = true) → wpAny P .any ops Q fuel listed a w := by
  simp only [drawOk, Bool.and_eq_true, beq_iff_eq, List.all_eq_true, List.mem_range] at hok
  obtain ⟨hsz, hop⟩ := hok
  have fact : ∀ j, j < ops.size → ∃ x o pre, ops[j]? = some x ∧ pos[j]? = some (o, pre) ∧ poOk P N ops x o = true ∧ (∀ e ∈ x.after, Region.binds .any e = true → e.on < j) ∧
      (∀ k ∈ pre, ∃ e ∈ x.after, Region.binds .any e = true ∧ (e.on = k ∨ ∃ q, pos[e.on]? = some q ∧ k ∈ q.2)) ∧ ∀ i, i < j → i ∈ pre ∨ ∃ q, pos[i]? = some q ∧ apartPO q.1 o = true := by
    intro j hj
    have := hop j hj
    split at this
    case h_2 => cases this
    rename_i x o pre hx ho
    simp only [Bool.and_eq_true, Array.all_eq_true_iff_forall_mem, decide_eq_true_eq, List.all_eq_true, List.mem_range, Bool.or_eq_true, Bool.not_eq_true'] at this
    obtain ⟨c1, c2, c3, c4⟩ := this
    refine ⟨x, o, pre, hx, ho, c1, fun e he hb => (c2 e he).resolve_left (by rw [hb]; simp), fun k hk => ?_, fun i hi => ?_⟩
    · have := c3 k hk
      rw [← Array.any_toList, List.any_eq_true] at this
      obtain ⟨e, he, hb⟩ := this
      rw [Array.mem_toList_iff] at he
      simp only [Bool.and_eq_true, Bool.or_eq_true, beq_iff_eq] at hb
      refine ⟨e, he, hb.1, ?_⟩
      rcases hb.2 with q | q
      · exact .inl q
      · split at q
        · rename_i z hz; exact .inr ⟨z, hz, by simpa using q⟩
        · cases q
    · rcases c4 i hi with q | q
      · exact .inl (by simpa using q)
      · split at q
        · rename_i z hz; exact .inr ⟨z, hz, q⟩
        · cases q
  have bnd : ∀ {listed : Array Bool} {j : Nat}, j < listed.size → listed.getD j true = listed.getD j false := by
    intro listed j hj; simp [Array.getElem?_eq_getElem hj]
  intro fuel
  induction fuel with
  | zero =>
    intro L listed st a w hl Rl hrun hls hidx hmem hpw hcl
    have hnil : L = [] := List.eq_nil_of_length_eq_zero hl
    subst hnil
    refine ⟨?_, ?_⟩
    · rw [List.eq_nil_iff_forall_not_mem]
      intro j hj
      obtain ⟨h1, o, ho, _⟩ := mem_ready.1 hj
      have hlt := (Array.getElem?_eq_some_iff.1 ho).1
      obtain ⟨x, hx, _⟩ := (hidx j hlt).1 h1
      cases hx
    · cases hrun with
      | nil q => exact hQ a w (Rl.congr q)
  | succ fuel ih =>
    intro L listed st a w hl Rl hrun hls hidx hmem hpw hcl
    refine ⟨?_, ?_⟩
    · intro hnil
      exfalso
      cases L with
      | nil => simp at hl
      | cons y L =>
        obtain ⟨m1, m2⟩ := hmem y (List.mem_cons_self ..)
        obtain ⟨x, o, pre, hx, ho, c1, c2, c3, c4⟩ := fact y.i m1
        have : y.i ∈ Region.ready .any ops listed := by
          rw [mem_ready]
          refine ⟨(hidx _ m1).2 ⟨y, List.mem_cons_self .., rfl⟩, x, hx, fun e he hb => ?_⟩
          have hlt := c2 e he hb
          cases hq : listed.getD e.on false with
          | true => rfl
          | false =>
            exfalso
            rw [← bnd (by omega)] at hq
            obtain ⟨z, hz, hze⟩ := (hidx e.on (by omega)).1 hq
            rw [List.pairwise_cons] at hpw
            rcases List.mem_cons.1 hz with rfl | hz
            · omega
            · have := (hpw.1 z hz).1; omega
        rw [hnil] at this; cases this
    · intro i hi
      obtain ⟨h1, x, hx, hrdy⟩ := mem_ready.1 hi
      have hlt := (Array.getElem?_eq_some_iff.1 hx).1
      obtain ⟨z, hz, rfl⟩ := (hidx i hlt).1 h1
      obtain ⟨A, B, rfl⟩ := List.append_of_mem hz
      obtain ⟨x', o, pre, hx', ho, c1, c2, c3, c4⟩ := fact z.i hlt
      rw [hx] at hx'; injection hx' with hx'; subst hx'
      have hpre : ∀ k ∈ pre, listed.getD k false = true := by
        intro k hk
        obtain ⟨e, he, hb, q⟩ := c3 k hk
        have hon := hrdy e he hb
        rcases q with rfl | ⟨q, hq, hkq⟩
        · exact hon
        · have heo := c2 e he hb
          exact hcl e.on (by omega) (by rw [bnd (by omega)]; exact hon) q.2 (by rw [hq]; rfl) k hkq
      have hzo : z.o = o := by
        have := (hmem z hz).2
        rw [ho] at this; simpa using this.symm
      rw [List.pairwise_append, List.pairwise_cons] at hpw
      obtain ⟨pA, ⟨pz, pB⟩, pAB⟩ := hpw
      have hA : ∀ y ∈ A, clash y.t z.t = false ∧ apartPO y.o z.o = true := by
        intro y hy
        obtain ⟨q1, q2⟩ := pAB y hy z (List.mem_cons_self ..)
        have hyl : y.i < ops.size := (hmem y (List.mem_append.2 (.inl hy))).1
        have hun : ¬ y.i ∈ pre := by
          intro hyp
          have e1 := hpre _ hyp
          have e2 := (hidx y.i hyl).2 ⟨y, List.mem_append.2 (.inl hy), rfl⟩
          rw [bnd (by omega), e1] at e2; cases e2
        refine ⟨(q2 pre (by rw [ho]; rfl)).resolve_left hun, ?_⟩
        rcases c4 y.i q1 with q | ⟨q, hq, hqa⟩
        · exact absurd q hun
        · have := (hmem y (List.mem_append.2 (.inl hy))).2
          rw [hq] at this; simp only [Option.map_some, Option.some.injEq] at this
          rw [hzo, ← this]; exact hqa
      obtain ⟨s1, hs1, hrun'⟩ := hrun.front hA
      refine step_sound hcall hfz Rl hx (hzo ▸ c1) hs1 fun a' w' Rl' => ?_
      refine ih (A ++ B) _ s1 a' w' (by simp at hl ⊢; omega) Rl' hrun' (by simpa using hls) ?_ (fun y hy => hmem y (by
        rcases List.mem_append.1 hy with q | q
        · exact List.mem_append.2 (.inl q)
        · exact List.mem_append.2 (.inr (List.mem_cons_of_mem _ q)))) ?_ ?_
      · intro j hj
        by_cases hjz : z.i = j
        · subst hjz
          have e1 : (listed.setIfInBounds z.i true).getD z.i true = true := by simp [hls, hlt]
          rw [e1]
          refine ⟨fun q => by simp at q, ?_⟩
          rintro ⟨y, hy, hyz⟩
          rcases List.mem_append.1 hy with q | q
          · have := (pAB y q z (List.mem_cons_self ..)).1; omega
          · have := (pz y q).1; omega
        · rw [getD_set_ne _ hjz, hidx j hj]
          constructor
          · rintro ⟨y, hy, rfl⟩
            refine ⟨y, ?_, rfl⟩
            rcases List.mem_append.1 hy with q | q
            · exact List.mem_append.2 (.inl q)
            · rcases List.mem_cons.1 q with rfl | q
              · exact absurd rfl hjz
              · exact List.mem_append.2 (.inr q)
          · rintro ⟨y, hy, rfl⟩
            refine ⟨y, ?_, rfl⟩
            rcases List.mem_append.1 hy with q | q
            · exact List.mem_append.2 (.inl q)
            · exact List.mem_append.2 (.inr (List.mem_cons_of_mem _ q))
      · rw [List.pairwise_append]
        exact ⟨pA, pB, fun y hy y' hy' => pAB y hy y' (List.mem_cons_of_mem _ hy')⟩
      · have grow : ∀ k, listed.getD k false = true → (listed.setIfInBounds z.i true).getD k false = true := by
          intro k hk
          by_cases hkz : z.i = k
          · subst hkz; simp [hls, hlt]
          · rw [getD_set_ne _ hkz]; exact hk
        intro j hj hjl pre' hp k hk
        by_cases hjz : z.i = j
        · subst hjz
          rw [ho] at hp; simp only [Option.map_some, Option.some.injEq] at hp; subst hp
          exact grow k (hpre k hk)
        · rw [getD_set_ne _ hjz] at hjl
          exact grow k (hcl j hj hjl pre' hp k hk)
theorem draw_sound {id : Nat} {ops : Array Oper} {Q : Exit → Act → World → Prop} {pos : List (PO × List Nat)} {st st' : St} (hm : P.follows .mixedOrders = true) (hcall : CallsOk P cfg.own call) (hfz : cfg.fz = X.fz) (hok : drawOk P N ops pos = true)
    (H : pdraw call cfg pos 0 [] st = some st') (Rl : Rel X N st a w) (hQ : ∀ a' w', Rel X N st' a' w' → Q .normal a' w') : (Code.region id ops true).wp P Q a w := by
  refine wp_region_any hm ?_
  obtain ⟨L, h1, h2, h3, h4⟩ := pdraw_run H
  have hsz : ops.size = pos.length := by
    simp only [drawOk, Bool.and_eq_true, beq_iff_eq] at hok; exact hok.1
  have hlen : L.length = pos.length := by rw [← List.length_map (f := (·.i)), h1]; simp
  have hLi : ∀ (j : Nat) x, L[j]? = some x → x.i = j := by
    intro j x hj
    have : (L.map (·.i))[j]? = some x.i := by rw [List.getElem?_map, hj]; rfl
    have hlt : j < pos.length := by rw [← hlen]; exact lt_of_at hj
    rw [h1, List.getElem?_range' hlt] at this
    simp at this; omega
  have hLo : ∀ (j : Nat) x, L[j]? = some x → (pos[j]?).map (·.1) = some x.o := by
    intro j x hj
    have : (L.map (·.o))[j]? = some x.o := by rw [List.getElem?_map, hj]; rfl
    rw [h2, List.getElem?_map] at this; exact this
  refine draw_any hcall hfz hok hQ ops.size L _ st a _ (by omega) (Rl.drawn _) h3 (by simp) ?_ ?_ ?_ ?_
  · intro j hj
    have hjL : j < L.length := by omega
    constructor
    · intro _
      exact ⟨L[j], List.getElem_mem _, hLi j _ (List.getElem?_eq_getElem hjL)⟩
    · intro _; simp [hj]
  · intro x hx
    obtain ⟨j, hj, rfl⟩ := List.mem_iff_getElem.1 hx
    have hj' := List.getElem?_eq_getElem hj
    rw [hLi j _ hj']
    exact ⟨by omega, hLo j _ hj'⟩
  · rw [List.pairwise_iff_getElem]
    intro i j hi hj hij
    have hi' := List.getElem?_eq_getElem hi
    have hj' := List.getElem?_eq_getElem hj
    rw [hLi i _ hi', hLi j _ hj']
    refine ⟨hij, fun pre hp => ?_⟩
    have := (h4 j _ hj' pre hp).2 i _ hij hi'
    rwa [hLi i _ hi'] at this
  · intro j hj hjl
    simp [hj] at hjl
theorem eff_settled (r : Root) : rowsAt (some r.settled) = rowsAt (some r) := by
  cases r <;> rfl
theorem Leaf.keep {c : C} {v : Value} {ks : List Nat} (hsub : ∀ k r', rt' k = some r' → ∃ r, rt k = some r ∧ r' = r.settled) (hks : ∀ k ∈ ks, (rt' k).isSome) (hc : c.keyOk ks = true) (H : Leaf h R rt γ c v) : Leaf h R rt' γ c v := by
  have hrows : ∀ k rows, rowsAt (rt' k) = some rows → rowsAt (rt k) = some rows := by
    intro k rows hr
    cases e : rt' k with
    | none => rw [e] at hr; cases hr
    | some r' =>
      obtain ⟨r, h1, rfl⟩ := hsub k r' e
      rw [e, eff_settled] at hr; rw [h1]; exact hr
  cases c <;> simp only [Leaf] at H ⊢ <;> try exact H
  case ref k len =>
    simp only [C.keyOk, List.contains_eq_mem, decide_eq_true_eq] at hc
    obtain ⟨a, cap, rfl, h1, _, f⟩ := H
    exact ⟨a, cap, rfl, h1, hks k hc, fun rows hr => f rows (hrows k rows hr)⟩
  case nref k vs i j len =>
    simp only [C.keyOk, List.contains_eq_mem, decide_eq_true_eq] at hc
    obtain ⟨a, cap, rfl, h1, _, f⟩ := H
    refine ⟨a, cap, rfl, h1, hks k hc, fun p vs' rows foc hr => ?_⟩
    obtain ⟨r, e1, e2⟩ := hsub k _ hr
    cases r with
    | row p0 v0 rows0 foc0 =>
      simp only [Root.settled, Root.row.injEq] at e2
      obtain ⟨rfl, rfl, rfl, rfl⟩ := e2
      have := f _ _ _ _ e1
      exact this
    | box => simp [Root.settled] at e2
    | frow => simp [Root.settled] at e2
    | dead => simp [Root.settled] at e2
  case view k off len tot =>
    simp only [C.keyOk, List.contains_eq_mem, decide_eq_true_eq] at hc
    obtain ⟨a, cap, rfl, h1, h2, _, f⟩ := H
    exact ⟨a, cap, rfl, h1, h2, hks k hc, fun rows hr => f rows (hrows k rows hr)⟩
  case bptr k off =>
    simp only [C.keyOk, List.contains_eq_mem, decide_eq_true_eq] at hc
    obtain ⟨ad, rfl, _, f⟩ := H
    refine ⟨ad, rfl, hks k hc, fun p cells hr => ?_⟩
    obtain ⟨r, e1, e2⟩ := hsub k _ hr
    cases r with
    | box p0 c0 =>
      simp only [Root.settled, Root.box.injEq] at e2
      obtain ⟨rfl, rfl⟩ := e2
      exact f _ _ e1
    | row => simp [Root.settled] at e2
    | frow => simp [Root.settled] at e2
    | dead => simp [Root.settled] at e2
  case eptr k tot i off =>
    simp only [C.keyOk, List.contains_eq_mem, decide_eq_true_eq] at hc
    obtain ⟨ad, rfl, h1, _, f⟩ := H
    exact ⟨ad, rfl, h1, hks k hc, fun rows hr => f rows (hrows k rows hr)⟩
theorem VR.keep {x : V} {v : Value} {ks : List Nat} (hsub : ∀ k r', rt' k = some r' → ∃ r, rt k = some r ∧ r' = r.settled) (hks : ∀ k ∈ ks, (rt' k).isSome) (hc : x.keyOk ks = true) (H : VR h R rt γ x v) : VR h R rt' γ x v := by
  cases x with
  | one c => exact Leaf.keep hsub hks hc H
  | agg cs =>
    obtain ⟨arr, e, p⟩ := H
    refine ⟨arr, e, Pw.of p.len fun i c y hi hy => ?_⟩
    obtain ⟨y', hy', hl⟩ := p.at hi
    rw [hy] at hy'; injection hy' with hy'; subst hy'
    exact hl.keep hsub hks (List.all_eq_true.1 hc c (List.mem_of_getElem? hi))
  | tup vs =>
    obtain ⟨arr, e, p⟩ := H
    refine ⟨arr, e, Pw.of p.len fun i x y hi hy => ?_⟩
    obtain ⟨y', hy', hl⟩ := p.at hi
    rw [hy] at hy'; injection hy' with hy'; subst hy'
    have hx := List.all_eq_true.1 hc x (List.mem_of_getElem? hi)
    cases x with
    | one c => exact Leaf.keep hsub hks hx hl
    | agg cs =>
      obtain ⟨arr', e', p'⟩ := hl
      refine ⟨arr', e', Pw.of p'.len fun i c z hi hz => ?_⟩
      obtain ⟨z', hz', hl'⟩ := p'.at hi
      rw [hz] at hz'; injection hz' with hz'; subst hz'
      exact hl'.keep hsub hks (List.all_eq_true.1 hx c (List.mem_of_getElem? hi))
    | tup => exact hl.elim
theorem get_keep {α : Type} (e : List (Nat × α)) : ∀ (ns : List Nat) {n : Nat} {v : α}, get (keep e ns) n = some v → get e n = some v ∧ (n, v) ∈ keep e ns
  | [], n, v, H => by simp [keep, get] at H
  | m :: ns, n, v, H => by
    simp only [keep] at H ⊢
    split at H
    · rename_i x hx
      simp only [get] at H
      split at H
      · rename_i hm
        subst hm
        injection H with H; subst H
        exact ⟨hx, by simp [hx]⟩
      · obtain ⟨h1, h2⟩ := get_keep e ns H
        exact ⟨h1, by simp [hx, h2]⟩
    · rename_i hx
      obtain ⟨h1, h2⟩ := get_keep e ns H
      exact ⟨h1, by simp [hx, h2]⟩
theorem get_keepRoots (e : List (Nat × Root)) : ∀ (ns : List Nat) {n : Nat} {r : Root}, get (keepRoots e ns) n = some r → (∃ r0, get e n = some r0 ∧ r = r0.settled) ∧ (n, r) ∈ keepRoots e ns
  | [], n, v, H => by simp [keepRoots, get] at H
  | m :: ns, n, v, H => by
    simp only [keepRoots] at H ⊢
    split at H
    · rename_i x hx
      split at H
      · rename_i hd
        obtain ⟨h1, h2⟩ := get_keepRoots e ns H
        exact ⟨h1, by simp [hx, hd, h2]⟩
      · rename_i hd
        simp only [get] at H
        split at H
        · rename_i hm
          subst hm
          injection H with H; subst H
          exact ⟨⟨x, hx, rfl⟩, by simp [hx, hd]⟩
        · obtain ⟨h1, h2⟩ := get_keepRoots e ns H
          exact ⟨h1, by simp [hx, hd, h2]⟩
    · rename_i hx
      obtain ⟨h1, h2⟩ := get_keepRoots e ns H
      exact ⟨h1, by simp [hx, h2]⟩
theorem get_isSome {α : Type} : ∀ {l : List (Nat × α)} {k : Nat}, k ∈ l.map (·.1) → (get l k).isSome
  | [], k, H => by simp at H
  | (m, v) :: l, k, H => by
    simp only [get]
    split
    · rfl
    · rename_i hm
      simp only [List.map_cons, List.mem_cons] at H
      exact get_isSome (H.resolve_left fun e => hm e.symm)
theorem settled_owns {g : Gk} {b : Nat} {r : Root} : Owns g b r.settled ↔ Owns g b r := by cases r <;> exact Iff.rfl
theorem settled_par (r : Root) : r.settled.par = r.par := by cases r <;> rfl
theorem Rel.prune {st st' : St} {slots keys : List Nat} (H : PI.prune slots keys st = some st') (Rl : Rel X N st a w) : Rel X N st' a w := by
  unfold PI.prune at H
  split at H
  case isFalse => cases H
  rename_i hq
  injection H with H; subst H
  simp only [Bool.and_eq_true, List.all_eq_true] at hq
  obtain ⟨q1, q2⟩ := hq
  obtain ⟨R, γ, M, E, hd, hN⟩ := Rl
  have hsub : ∀ k r', get (keepRoots st.roots keys) k = some r' → ∃ r, get st.roots k = some r ∧ r' = r.settled := fun k r' hr => (get_keepRoots _ _ hr).1
  have hks : ∀ k ∈ (keepRoots st.roots keys).map (·.1), (get (keepRoots st.roots keys) k).isSome := fun k hk => get_isSome hk
  refine ⟨R, γ, ⟨?_, ?_, ?_, ?_, ?_, M.rLt, M.rIn, M.r0, M.rSame, M.frame, ?_, M.alike⟩, ?_, hd, hN⟩
  · intro k r' hr'
    obtain ⟨r, hr, rfl⟩ := hsub k r' hr'
    have h0 := M.root k r hr
    cases r with
    | box p cells =>
      obtain ⟨b, arr, elem, g1, g2, g3, g4, g5⟩ := h0
      have hkey := q2 _ (get_keepRoots _ _ hr').2
      refine ⟨b, arr, elem, g1, g2, g3, g4, Pw.of g5.len fun i c y hi hy => ?_⟩
      obtain ⟨y', hy', hl⟩ := g5.at hi
      rw [hy] at hy'; injection hy' with hy'; subst hy'
      exact hl.keep hsub hks (List.all_eq_true.1 hkey c (List.mem_of_getElem? hi))
    | row p v rows foc => exact ⟨h0.1, by simp⟩
    | frow => exact h0
    | dead => trivial
  · intro k k' r1 r2 b hne h1 h2 ho
    obtain ⟨r1', e1, rfl⟩ := hsub k r1 h1
    obtain ⟨r2', e2, rfl⟩ := hsub k' r2 h2
    rw [settled_owns] at ho ⊢
    exact M.disj k k' _ _ b hne e1 e2 ho
  · intro k r b hr ho
    obtain ⟨r', e1, rfl⟩ := hsub k r hr
    exact M.ownR k r' b e1 (settled_owns.1 ho)
  · intro k r b hr ho
    obtain ⟨r', e1, rfl⟩ := hsub k r hr
    exact M.ownLt k r' b e1 (settled_owns.1 ho)
  · intro k r b hr ho
    obtain ⟨r', e1, rfl⟩ := hsub k r hr
    rw [settled_par]
    exact M.ownIn k r' b e1 (settled_owns.1 ho)
  · intro k r hr
    obtain ⟨r', e1, rfl⟩ := hsub k r hr
    have := M.par k r' e1
    cases r' with
    | box => exact this
    | row p v rows foc => cases p <;> exact this
    | frow => trivial
    | dead => trivial
  · intro n v hv
    obtain ⟨h1, h2⟩ := get_keep _ _ hv
    obtain ⟨x, hx, hr⟩ := E n v h1
    exact ⟨x, hx, hr.keep hsub hks (q1 _ h2)⟩
def exitOf : PExit → Exit
  | .normal => .normal
  | .ret => .ret
  | .exit n => .exit n
def codeOk (P : Program) (N : Nat) : Code → PCode → Bool
  | .skip, .skip => true
  | .ret, .ret => true
  | .exit n, .exit m => n == m
  | .region _ ops false, .region os => regionOk P N ops ops.toList os
  | .region _ ops true, .dregion os => drawOk P N ops os
  | .seq a b, .seq x y => codeOk P N a x && codeOk P N b y
  | .cond c a b, .cond c' x y => opdOk c' c && (codeOk P N a x && codeOk P N b y)
  | .block n a, .block m x => n == m && codeOk P N a x
  | .loop a, .loop _ _ _ _ x => codeOk P N a x
  | _, _ => false
theorem wp_loop_n {c : Code} {Q : Exit → Act → World → Prop} (I : Nat → Act → World → Prop) (step : ∀ n a w, I n a w → c.wp P (Exit.then (fun a' w' => ∃ m, m < n ∧ I m a' w') Q) a w) : ∀ {n : Nat} {a : Act} {w : World}, I n a w → (Code.loop c).wp P Q a w := by
  intro n a w h0 b k cs
  have key : ∀ n a w, I n a w → ∃ e a' w', Q e a' w' ∧ Arrives P (lone (b.at a (.code c :: .inLoop c :: k)) cs w) b k cs e a' w' := by
    intro n
    induction n using Nat.strongRecOn with
    | _ n ih =>
      intro a w hI
      obtain ⟨e, a1, w1, hq, harr⟩ := step n a w hI b (.inLoop c :: k) cs
      cases e
      case normal =>
        obtain ⟨m, hm, hI'⟩ := hq
        obtain ⟨e2, a2, w2, hq2, harr2⟩ := ih m hm a1 w1 hI'
        exact ⟨e2, a2, w2, hq2, .of_steps (Steps.trans harr (.one step_inLoop)) harr2⟩
      all_goals exact ⟨_, a1, w1, hq, .pass (x := .inLoop c) rfl (fun _ _ => .inl (by simp)) harr⟩
  obtain ⟨e, a', w', hq, harr⟩ := key n a w h0
  exact ⟨e, a', w', hq, .of_steps (.one step_loop) harr⟩
def Outcome' (X : Ctx) (N : Nat) (ex : PExit) (st' : St) (e : Exit) (a' : Act) (w' : World) : Prop := e = exitOf ex ∧ Rel X N st' a' w'
theorem exec_sound (hm : P.follows .mixedOrders = true) (hcall : CallsOk P cfg.own call) (hfz : cfg.fz = X.fz) {n : Nat} {pc : PCode} : ∀ {c : Code} {st st' : St} {ex : PExit} {a : Act} {w : World}, codeOk P N c pc = true → pexec call cfg (lpN n) pc st = some (ex, st') → Rel X N st a w →
    c.wp P (Outcome' X N ex st') a w := by
  induction pc with
  | skip =>
    intro c st st' ex a w C H Rl
    cases c <;> simp only [codeOk, Bool.false_eq_true] at C
    simp only [pexec, Option.some.injEq, Prod.mk.injEq] at H
    obtain ⟨rfl, rfl⟩ := H
    exact wp_skip ⟨rfl, Rl⟩
  | ret =>
    intro c st st' ex a w C H Rl
    cases c <;> simp only [codeOk, Bool.false_eq_true] at C
    simp only [pexec, Option.some.injEq, Prod.mk.injEq] at H
    obtain ⟨rfl, rfl⟩ := H
    exact wp_ret ⟨rfl, Rl⟩
  | exit m =>
    intro c st st' ex a w C H Rl
    cases c <;> simp only [codeOk, Bool.false_eq_true, beq_iff_eq] at C
    subst C
    simp only [pexec, Option.some.injEq, Prod.mk.injEq] at H
    obtain ⟨rfl, rfl⟩ := H
    exact wp_exit ⟨rfl, Rl⟩
  | region os =>
    intro c st st' ex a w C H Rl
    cases c
    case region id ops d =>
      cases d <;> simp only [codeOk, Bool.false_eq_true] at C
      simp only [pexec] at H
      split at H
      case h_2 => cases H
      rename_i st1 hs
      simp only [Option.some.injEq, Prod.mk.injEq] at H
      obtain ⟨rfl, rfl⟩ := H
      refine wp_region ?_
      have := pops_sound (Q := Outcome' X N .normal st1) hcall hfz (fun a' w' h => ⟨rfl, h⟩) (xs := ops.toList) (k := 0) (fun j => by simp) C hs Rl
      rwa [← List.range_eq_range', Array.length_toList] at this
    all_goals simp [codeOk] at C
  | dregion os =>
    intro c st st' ex a w C H Rl
    cases c
    case region id ops d =>
      cases d <;> simp only [codeOk, Bool.false_eq_true] at C
      simp only [pexec] at H
      split at H
      case h_2 => cases H
      rename_i st1 hs
      simp only [Option.some.injEq, Prod.mk.injEq] at H
      obtain ⟨rfl, rfl⟩ := H
      exact draw_sound hm hcall hfz C hs Rl fun a' w' h => ⟨rfl, h⟩
    all_goals simp [codeOk] at C
  | seq x y ihx ihy =>
    intro c st st' ex a w C H Rl
    cases c <;> simp only [codeOk, Bool.false_eq_true, Bool.and_eq_true] at C
    simp only [pexec] at H
    refine wp_seq ?_
    split at H
    · rename_i st1 hs
      refine wp_mono (ihx C.1 hs Rl) ?_
      rintro e a' w' ⟨rfl, Rl'⟩
      exact ihy C.2 H Rl'
    · rename_i hn
      refine wp_mono (ihx C.1 H Rl) ?_
      rintro e a' w' ⟨rfl, Rl'⟩
      cases ex with
      | normal => exact absurd H (hn _)
      | ret => exact ⟨rfl, Rl'⟩
      | exit m => exact ⟨rfl, Rl'⟩
  | cond q x y ihx ihy =>
    intro c st st' ex a w C H Rl
    cases c <;> simp only [codeOk, Bool.false_eq_true, Bool.and_eq_true] at C
    rename_i c xa ya
    simp only [pexec, condOf] at H
    have hb : ∀ b, q.val st.env = some (.one (.bool b)) → a.eval c = .bool b := by
      intro b hb
      obtain ⟨R, γ, M, E, _⟩ := Rl
      exact VR_bool (opd_eval E C.1 hb)
    cases hq : q.val st.env with
    | none => rw [hq] at H; simp at H
    | some v =>
      rw [hq] at H
      cases v with
      | agg => simp at H
      | tup => simp at H
      | one c' =>
        cases c' <;> simp only [reduceCtorEq] at H
        rename_i b
        cases b with
        | true => exact wp_cond_true (hb _ hq) (ihx C.2.1 H Rl)
        | false => exact wp_cond_false (hb _ hq) (ihy C.2.2 H Rl)
  | block m x ih =>
    intro c st st' ex a w C H Rl
    cases c <;> simp only [codeOk, Bool.false_eq_true, Bool.and_eq_true, beq_iff_eq] at C
    obtain ⟨rfl, C⟩ := C
    simp only [pexec] at H
    refine wp_block ?_
    split at H
    · rename_i m' st1 hs
      refine wp_mono (ih C hs Rl) ?_
      rintro e a' w' ⟨rfl, Rl'⟩
      split at H
      · rename_i hmm
        simp only [Option.some.injEq, Prod.mk.injEq] at H
        obtain ⟨rfl, rfl⟩ := H
        subst hmm
        simp only [exitOf, Exit.inBlock, if_true]
        exact ⟨rfl, Rl'⟩
      · rename_i hmm
        simp only [Option.some.injEq, Prod.mk.injEq] at H
        obtain ⟨rfl, rfl⟩ := H
        simp only [exitOf, Exit.inBlock, hmm, if_false]
        exact ⟨rfl, Rl'⟩
    · rename_i hn
      refine wp_mono (ih C H Rl) ?_
      rintro e a' w' ⟨rfl, Rl'⟩
      cases ex with
      | normal => exact ⟨rfl, Rl'⟩
      | ret => exact ⟨rfl, Rl'⟩
      | exit k => exact absurd H (hn _ _)
  | loop slots keys slots2 keys2 x ih =>
    intro c st st' ex a w C H Rl
    cases c <;> simp only [codeOk, Bool.false_eq_true] at C
    rename_i body
    simp only [pexec] at H
    split at H
    case h_2 => cases H
    rename_i st1 hp
    have Rl1 := Rl.prune hp
    refine wp_loop_n (fun k a w => ∃ s, Rel X N s a w ∧ lpN k (fun st => roundEnd slots keys slots2 keys2 (pexec call cfg (lpN n) x st)) s = some (ex, st')) ?_ (n := n) ⟨st1, Rl1, H⟩
    rintro k a w ⟨s, Rs, hk⟩
    cases k with
    | zero => simp [lpN] at hk
    | succ k =>
      simp only [lpN] at hk
      cases he : pexec call cfg (lpN n) x s with
      | none => rw [he] at hk; simp [roundEnd] at hk
      | some r =>
        obtain ⟨e1, s1⟩ := r
        rw [he] at hk
        refine wp_mono (ih C he Rs) ?_
        rintro e a' w' ⟨rfl, Rl'⟩
        cases e1 with
        | normal =>
          simp only [roundEnd] at hk
          cases hpr : PI.prune slots keys s1 with
          | none => rw [hpr] at hk; simp at hk
          | some s2 =>
            rw [hpr] at hk
            exact ⟨k, Nat.lt_succ_self _, s2, Rl'.prune hpr, hk⟩
        | ret =>
          simp only [roundEnd] at hk
          cases hpr : PI.prune slots2 keys2 s1 with
          | none => rw [hpr] at hk; simp at hk
          | some s2 =>
            rw [hpr] at hk
            simp only [Option.some.injEq, Prod.mk.injEq] at hk
            obtain ⟨rfl, rfl⟩ := hk
            exact ⟨rfl, Rl'.prune hpr⟩
        | exit m =>
          simp only [roundEnd] at hk
          cases hpr : PI.prune slots2 keys2 s1 with
          | none => rw [hpr] at hk; simp at hk
          | some s2 =>
            rw [hpr] at hk
            simp only [Option.some.injEq, Prod.mk.injEq] at hk
            obtain ⟨rfl, rfl⟩ := hk
            exact ⟨rfl, Rl'.prune hpr⟩
end
end Go.Proofs.Ytdgamfanffnhaaa.PI

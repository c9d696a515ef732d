/-
  Regions whose order is open: whatever order is drawn, what PI does in the text's order is what comes of it. No condition.
-/
import Derived.Test.YtdgamfanffnhaaaPkOpAll
set_option linter.unusedVariables false
set_option linter.unusedSimpArgs false
namespace Go.Proofs.Ytdgamfanffnhaaa.PI
open Go
def POp.opds : POp → List Opd
  | .mov x | .box x | .nilc x | .not x | .ngt x | .conv _ x | .mk _ _ x | .fld _ x | .ext x _ | .len _ x | .load _ _ x => [x]
  | .pick c a b => [c, a, b]
  | .nilroot | .alloc _ => []
  | .build _ parts => parts.map (·.2.2)
  | .bslice _ _ parts => parts.map (·.2)
  | .store _ a x => [a, x]
  | .bin _ _ x y | .eqa _ _ x y | .idx _ x y | .app _ _ x y => [x, y]
  | .slice _ _ x lo hi => x :: (lo.toList ++ hi.toList)
  | .mn xs | .mx xs => xs
  | .call _ args => args
  | .callv f args => f :: args
def Opd.tmp : Opd → Option Nat
  | .t n => some n
  | .k _ => none
def PO.looks (o : PO) : List Nat := o.op.opds.filterMap Opd.tmp ++ (match o.guard with
  | some (g, _) => [g]
  | none => [])
def notIn (d : Option Nat) (l : List Nat) : Bool :=
  match d with
  | some d => !l.contains d
  | none => true
def apartPO (x y : PO) : Bool := notIn x.dst y.looks && (notIn y.dst x.looks && (match x.dst, y.dst with
  | some d, some d' => d != d'
  | _, _ => true))
section
variable {call : Nat → List V → Option Res} {cfg : Cfg}
theorem opd_eq {e e' : List (Nat × V)} {x : Opd} (h : x.val e = x.val e') (K : V → RM) : opd e x K = opd e' x K := by unfold opd; rw [h]
theorem opds_eq {e e' : List (Nat × V)} : ∀ {xs : List Opd}, (∀ x ∈ xs, x.val e = x.val e') → ∀ K, opds e xs K = opds e' xs K
  | [], _, _ => rfl
  | x :: xs, h, K => by
    simp only [opds]
    rw [h x (by simp)]
    split
    · exact opds_eq (fun y hy => h y (by simp [hy])) _
    · rfl
theorem boundOf_eq {e e' : List (Nat × V)} {x : Option Opd} (h : ∀ y ∈ x.toList, y.val e = y.val e') (n : Nat) (K : Nat → RM) : boundOf e x n K = boundOf e' x n K := by
  cases x with
  | none => rfl
  | some x => simp only [boundOf]; exact opd_eq (h x (by simp)) _
theorem rm_eq {e e' : List (Nat × V)} {d : Nat} (p : POp) (h : ∀ x ∈ p.opds, x.val e = x.val e') : p.rm cfg d e = p.rm cfg d e' := by
  cases p with
  | nilroot => rfl
  | alloc => rfl
  | build zero parts => simp only [POp.rm]; exact opds_eq h _
  | bslice n zero parts => simp only [POp.rm]; exact opds_eq h _
  | mn xs => simp only [POp.rm]; exact opds_eq h _
  | mx xs => simp only [POp.rm]; exact opds_eq h _
  | call f args => simp only [POp.rm]; exact opds_eq h _
  | callv f args =>
    simp only [POp.rm]
    rw [opd_eq (h f (by simp [POp.opds]))]
    congr 1; funext v
    split
    · exact opds_eq (fun x hx => h x (by simp [POp.opds, hx])) _
    · rfl
  | slice str sz x lo hi =>
    simp only [POp.rm]
    rw [opd_eq (h x (by simp [POp.opds]))]
    congr 1; funext v
    split
    · congr 1; funext n
      rw [boundOf_eq fun y hy => h y (by simp only [POp.opds, List.mem_cons, List.mem_append]; exact .inr (.inr hy))]
      congr 1; funext m
      exact boundOf_eq (fun y hy => h y (by simp only [POp.opds, List.mem_cons, List.mem_append]; exact .inr (.inl hy))) _ _
    · rfl
  | pick c a b =>
    simp only [POp.rm]
    rw [opd_eq (h c (by simp [POp.opds]))]
    congr 1; funext v
    split
    · rw [opd_eq (h a (by simp [POp.opds])), opd_eq (h b (by simp [POp.opds]))]
    · rfl
  | store sz a x =>
    simp only [POp.rm]
    rw [opd_eq (h x (by simp [POp.opds]))]
    congr 1; funext v; congr 1; funext xs
    rw [opd_eq (h a (by simp [POp.opds]))]
  | bin ty op x y =>
    simp only [POp.rm]
    rw [opd_eq (h x (by simp [POp.opds]))]
    congr 1; funext v
    split
    · exact opd_eq (h y (by simp [POp.opds])) _
    · rfl
  | eqa neg n x y =>
    simp only [POp.rm]
    rw [opd_eq (h x (by simp [POp.opds]))]
    congr 1; funext v
    split
    · exact opd_eq (h y (by simp [POp.opds])) _
    · rfl
  | idx sz x y =>
    simp only [POp.rm]
    rw [opd_eq (h y (by simp [POp.opds]))]
    congr 1; funext v
    split
    · exact opd_eq (h x (by simp [POp.opds])) _
    · rfl
  | app sz lim x y =>
    simp only [POp.rm]
    rw [opd_eq (h x (by simp [POp.opds]))]
    congr 1; funext v
    split
    · exact opd_eq (h y (by simp [POp.opds])) _
    · rfl
  | _ => simp only [POp.rm]; exact opd_eq (h _ (by simp [POp.opds])) _
theorem run_local {r r' : Nat → Option Root} : ∀ {m : RM} {v : V} {u : Ups} {l : List Nat}, m.run call r = some (v, u, l) → (∀ k ∈ l, r k = r' k) → m.run call r' = some (v, u, l)
  | .ret v u, _, _, _, H, _ => H
  | .fail, _, _, _, H, _ => by simp [RM.run] at H
  | .rd key k, v, u, l, H, h => by
    simp only [RM.run] at H ⊢
    split at H
    · rename_i x hx
      split at H
      · rename_i v' u' l' h'
        simp only [Option.some.injEq, Prod.mk.injEq] at H
        obtain ⟨rfl, rfl, rfl⟩ := H
        rw [← h key (by simp), hx]
        simp only
        rw [run_local h' fun k hk => h k (by simp [hk])]
      · cases H
    · cases H
  | .ab key k, v, u, l, H, h => by
    simp only [RM.run] at H ⊢
    split at H
    · rename_i hx
      split at H
      · rename_i v' u' l' h'
        simp only [Option.some.injEq, Prod.mk.injEq] at H
        obtain ⟨rfl, rfl, rfl⟩ := H
        rw [← h key (by simp), hx]
        simp only
        rw [run_local h' fun k hk => h k (by simp [hk])]
      · cases H
    · cases H
  | .chk b k, v, u, l, H, h => by
    cases b
    · simp [RM.run] at H
    · simp only [RM.run] at H ⊢; exact run_local H h
  | .br b t f, v, u, l, H, h => by
    cases b
    · simp only [RM.run] at H ⊢; exact run_local H h
    · simp only [RM.run] at H ⊢; exact run_local H h
  | .el rows i k, v, u, l, H, h => by
    simp only [RM.run] at H ⊢
    split at H
    · exact run_local H h
    · cases H
  | .call f args k, v, u, l, H, h => by
    simp only [RM.run] at H ⊢
    split at H
    · exact run_local H h
    · cases H
def SEq (a b : St) : Prop := get a.env = get b.env ∧ get a.roots = get b.roots
theorem SEq.refl (a : St) : SEq a a := ⟨rfl, rfl⟩
theorem SEq.trans {a b c : St} (h : SEq a b) (k : SEq b c) : SEq a c := ⟨h.1.trans k.1, h.2.trans k.2⟩
theorem SEq.symm {a b : St} (h : SEq a b) : SEq b a := ⟨h.1.symm, h.2.symm⟩
theorem get_setD (e : List (Nat × V)) (d : Option Nat) (v : V) (m : Nat) : get (setD e d v) m = if d = some m then some v else get e m := by
  cases d with
  | none => simp [setD]
  | some d => simp [setD, get_put]
theorem pstep_eq {o : PO} {st st2 : St} {s : St} {t : Touch} (H : pstep call cfg o st = some (s, t)) (he : ∀ n ∈ o.looks, get st.env n = get st2.env n) (hr : ∀ k ∈ t.1, get st.roots k = get st2.roots k) :
    ∃ v u, s = ⟨setD st.env o.dst v, applyUps st.roots u⟩ ∧ t.2 = u.map (·.1) ∧ pstep call cfg o st2 = some (⟨setD st2.env o.dst v, applyUps st2.roots u⟩, t) := by
  have hop : ∀ x ∈ o.op.opds, x.val st.env = x.val st2.env := by
    intro x hx
    cases x with
    | k c => rfl
    | t n => exact he n (List.mem_append.2 (.inl (List.mem_filterMap.2 ⟨_, hx, rfl⟩)))
  have hg : o.guarded st.env = o.guarded st2.env := by
    unfold PO.guarded
    cases hgo : o.guard with
    | none => rfl
    | some gb =>
      obtain ⟨g, b⟩ := gb
      simp only
      rw [he g (by simp [PO.looks, hgo])]
  have on : stepOn call cfg o st = some (s, t) → ∃ v u, s = ⟨setD st.env o.dst v, applyUps st.roots u⟩ ∧ t.2 = u.map (·.1) ∧ stepOn call cfg o st2 = some (⟨setD st2.env o.dst v, applyUps st2.roots u⟩, t) := by
    intro H
    unfold stepOn at H
    split at H
    case h_2 => cases H
    rename_i v u l hrun
    split at H
    case isFalse => cases H
    rename_i hd
    simp only [Option.some.injEq, Prod.mk.injEq] at H
    obtain ⟨rfl, rfl⟩ := H
    refine ⟨v, u, rfl, rfl, ?_⟩
    unfold stepOn PO.rm
    rw [← rm_eq o.op hop]
    have := run_local (r' := get st2.roots) hrun hr
    unfold PO.rm at this
    rw [this]
    simp only [hd, if_true]
  have off : some (stepOff o st) = some (s, t) → ∃ v u, s = ⟨setD st.env o.dst v, applyUps st.roots u⟩ ∧ t.2 = u.map (·.1) ∧ some (stepOff o st2) = some (⟨setD st2.env o.dst v, applyUps st2.roots u⟩, t) := by
    intro H
    simp only [stepOff, Option.some.injEq, Prod.mk.injEq] at H
    obtain ⟨rfl, rfl⟩ := H
    exact ⟨undefV, [], rfl, rfl, rfl⟩
  unfold pstep at H ⊢
  rw [← hg]
  split at H
  · exact on H
  · exact on H
  · exact off H
  · exact off H
  · cases H
theorem pstep_congr {o : PO} {st st2 : St} (q : SEq st st2) {s : St} {t : Touch} (H : pstep call cfg o st = some (s, t)) : ∃ s', pstep call cfg o st2 = some (s', t) ∧ SEq s s' := by
  obtain ⟨v, u, rfl, _, h2⟩ := pstep_eq (st2 := st2) H (fun n _ => by rw [q.1]) (fun k _ => by rw [q.2])
  refine ⟨_, h2, ?_, ?_⟩
  · funext m; simp only [get_setD, q.1]
  · simp only [get_applyUps, q.2]
theorem upd_at (rt : Rt) (u : Ups) (k : Nat) : (k ∉ u.map (·.1) → PI.upd rt u k = rt k) ∧ (k ∈ u.map (·.1) → ∀ rt', PI.upd rt u k = PI.upd rt' u k) := by
  refine ⟨fun h => upd_none h, ?_⟩
  induction u generalizing rt with
  | nil => intro h; simp at h
  | cons x u ih =>
    intro h rt'
    simp only [PI.upd]
    by_cases hk : k ∈ u.map (·.1)
    · exact ih _ hk _
    · rw [upd_none hk, upd_none hk]
      simp only [List.map_cons, List.mem_cons] at h
      have : x.1 = k := (h.resolve_right hk).symm
      simp [updOne, this]
theorem pstep_swap {x y : PO} {st sy sx : St} {tx ty : Touch} (h1 : pstep call cfg y st = some (sy, ty)) (h2 : pstep call cfg x sy = some (sx, tx)) (hc : clash ty tx = false) (ha : apartPO y x = true) :
    ∃ s1 s2, pstep call cfg x st = some (s1, tx) ∧ pstep call cfg y s1 = some (s2, ty) ∧ SEq sx s2 := by
  simp only [apartPO, Bool.and_eq_true] at ha
  obtain ⟨a1, a2, a3⟩ := ha
  simp only [clash, Bool.or_eq_false_iff, List.any_eq_false, Bool.or_eq_true, not_or] at hc
  obtain ⟨c1, c2⟩ := hc
  have n1 : ∀ n ∈ x.looks, y.dst ≠ some n := by
    intro n hn he
    rw [he] at a1; simp only [notIn, Bool.not_eq_true'] at a1
    simp at a1; exact a1 hn
  have n2 : ∀ n ∈ y.looks, x.dst ≠ some n := by
    intro n hn he
    rw [he] at a2; simp only [notIn, Bool.not_eq_true'] at a2
    simp at a2; exact a2 hn
  obtain ⟨vy, uy, rfl, ty2, hy⟩ := pstep_eq (st2 := st) h1 (fun _ _ => rfl) (fun _ _ => rfl)
  have k1 : ∀ k ∈ tx.1, k ∉ uy.map (·.1) := by
    intro k hk hm
    rw [← ty2] at hm
    have := (c1 k hm).1; simp at this; exact this hk
  have k2 : ∀ k ∈ tx.2, k ∉ uy.map (·.1) := by
    intro k hk hm
    rw [← ty2] at hm
    have := (c1 k hm).2; simp at this; exact this hk
  have k3 : ∀ k ∈ ty.1, k ∉ tx.2 := by
    intro k hk hm
    have := c2 k hm; simp at this; exact this hk
  obtain ⟨vx, ux, rfl, tx2, hx⟩ := pstep_eq (st2 := st) h2 (fun n hn => by
    simp only [get_setD, if_neg (n1 n hn)]) (fun k hk => by
    simp only [get_applyUps]; exact upd_none (k1 k hk))
  obtain ⟨_, _, _, _, hy2⟩ := pstep_eq (st2 := ⟨setD st.env x.dst vx, applyUps st.roots ux⟩) h1 (fun n hn => by
    simp only [get_setD, if_neg (n2 n hn)]) (fun k hk => by
    simp only [get_applyUps]; exact (upd_none (by rw [← tx2]; exact k3 k hk)).symm)
  rename_i vy' uy' e1 e2
  simp only [St.mk.injEq] at e1
  refine ⟨_, _, hx, hy2, ?_, ?_⟩
  · funext m
    have e1' := congrFun (congrArg get e1.1) m
    simp only [get_setD] at e1' ⊢
    by_cases hm : x.dst = some m
    · have hy3 : y.dst ≠ some m := by
        intro he; rw [hm, he] at a3; simp at a3
      simp [hm, hy3]
    · by_cases hm2 : y.dst = some m
      · simp only [hm, if_false, hm2, if_true] at e1' ⊢; exact e1'
      · simp [hm, hm2]
  · funext k
    have e2' := congrFun (congrArg get e1.2) k
    simp only [get_applyUps] at e2' ⊢
    rw [ty2] at e2
    by_cases hk : k ∈ ux.map (·.1)
    · have hk2 : k ∉ uy.map (·.1) := k2 k (tx2 ▸ hk)
      rw [upd_none (u := uy') (by rw [← e2]; exact hk2)]
      exact (upd_at _ ux k).2 hk _
    · rw [upd_none hk]
      by_cases hk2 : k ∈ uy.map (·.1)
      · rw [e2']; exact (upd_at _ uy' k).2 (e2 ▸ hk2) _
      · rw [upd_none hk2, upd_none (u := uy') (by rw [← e2]; exact hk2), upd_none hk]
structure It where
  i : Nat
  o : PO
  t : Touch
inductive Run (call : Nat → List V → Option Res) (cfg : Cfg) : List It → St → St → Prop
  | nil {s s'} : SEq s s' → Run call cfg [] s s'
  | cons {x L s s1 s'} : pstep call cfg x.o s = some (s1, x.t) → Run call cfg L s1 s' → Run call cfg (x :: L) s s'
theorem Run.congr {L : List It} {s s' : St} (H : Run call cfg L s s') : ∀ {s2}, SEq s s2 → Run call cfg L s2 s' := by
  induction H with
  | nil q => exact fun e => .nil (e.symm.trans q)
  | cons h _ ih =>
    intro s2 e
    obtain ⟨s1', h1, q⟩ := pstep_congr e h
    exact .cons h1 (ih q)
theorem Run.front {x : It} {B : List It} {s' : St} : ∀ {A : List It} {s : St}, Run call cfg (A ++ x :: B) s s' → (∀ y ∈ A, clash y.t x.t = false ∧ apartPO y.o x.o = true) → ∃ s1, pstep call cfg x.o s = some (s1, x.t) ∧ Run call cfg (A ++ B) s1 s'
  | [], s, H, _ => by
    cases H with
    | cons h r => exact ⟨_, h, r⟩
  | y :: A, s, H, ha => by
    cases H with
    | cons h r =>
      obtain ⟨s1, h1, r1⟩ := Run.front r fun z hz => ha z (List.mem_cons_of_mem _ hz)
      obtain ⟨q1, q2⟩ := ha y (List.mem_cons_self ..)
      obtain ⟨t1, t2, e1, e2, e3⟩ := pstep_swap h h1 q1 q2
      exact ⟨t1, e1, .cons e2 (r1.congr e3)⟩
theorem pdraw_run : ∀ {os : List (PO × List Nat)} {i : Nat} {seen : List (Nat × Touch)} {s s' : St}, pdraw call cfg os i seen s = some s' →
    ∃ L : List It, L.map (·.i) = List.range' i os.length ∧ L.map (·.o) = os.map (·.1) ∧ Run call cfg L s s' ∧ (∀ (j : Nat) x, L[j]? = some x → ∀ pre, (os[j]?).map (·.2) = some pre → (∀ y ∈ seen, y.1 ∈ pre ∨ clash y.2 x.t = false) ∧ ∀ (k : Nat) y, k < j → L[k]? = some y → y.i ∈ pre ∨ clash y.t x.t = false)
  | [], i, seen, s, s', H => by
    simp only [pdraw, Option.some.injEq] at H; subst H
    exact ⟨[], rfl, rfl, .nil (.refl _), by simp⟩
  | (o, pre) :: os, i, seen, s, s', H => by
    simp only [pdraw] at H
    split at H
    case h_2 => cases H
    rename_i s1 t hs
    split at H
    case isFalse => cases H
    rename_i hap
    obtain ⟨L, h1, h2, h3, h4⟩ := pdraw_run H
    refine ⟨⟨i, o, t⟩ :: L, by simp [h1, List.range'_succ], by simp [h2], .cons hs h3, fun j x hj pre' hp => ?_⟩
    cases j with
    | zero =>
      simp only [List.getElem?_cons_zero, Option.some.injEq] at hj; subst hj
      simp only [List.getElem?_cons_zero, Option.map_some, Option.some.injEq] at hp; subst hp
      refine ⟨fun y hy => ?_, fun k y hk => absurd hk (Nat.not_lt_zero _)⟩
      simp only [apart, List.all_eq_true, Bool.or_eq_true, Bool.not_eq_true'] at hap
      rcases hap y hy with q | q
      · exact .inl (by simpa using q)
      · exact .inr q
    | succ j =>
      simp only [List.getElem?_cons_succ] at hj hp
      obtain ⟨q1, q2⟩ := h4 j x hj pre' hp
      refine ⟨fun y hy => q1 y (List.mem_cons_of_mem _ hy), fun k y hk hy => ?_⟩
      cases k with
      | zero =>
        simp only [List.getElem?_cons_zero, Option.some.injEq] at hy; subst hy
        exact q1 (i, t) (List.mem_cons_self ..)
      | succ k =>
        simp only [List.getElem?_cons_succ] at hy
        exact q2 k y (by omega) hy
end
end Go.Proofs.Ytdgamfanffnhaaa.PI

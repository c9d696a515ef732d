/-
  What PI's operations that make roots say of the machine's: nil rows, new variables. No condition.
-/
import Derived.Test.YtdgamfanffnhaaaPkOpsA4
set_option linter.unusedVariables false
set_option linter.unusedSimpArgs false
namespace Go.Proofs.Ytdgamfanffnhaaa.PI
open Go
section
variable {P : Program} {X : Ctx} {rt : Rt} {w w' : World} {R : Nat → Prop} {γ γ' : Gm} {env : List (Nat × V)} {a : Act} {op : Oper} {call : Nat → List V → Option Res} {cfg : Cfg} {d : Nat} {v : V} {u : Ups} {l : List Nat}
theorem upd_new {k : Nat} {r : Root} (hd : distinct (u.map (·.1)) = true) (h : (k, some r) ∈ u) : PI.upd rt u k = some r := upd_some hd h
theorem Mem.fresh (M : Mem X rt w R γ) (hd : distinct (u.map (·.1)) = true) (hf : ∀ x ∈ u, rt x.1 = none ∧ x.2.isSome) (al : World.alike w w') (same : ∀ k, k ∉ u.map (·.1) → γ' k = γ k)
    (heap : ∀ b, b < w.heap.size → hp w' b = hp w b)
    (root : ExtAll (hp w) (hp w') rt (PI.upd rt u) γ γ' → ∀ k r, (k, some r) ∈ u → RootR (hp w') R (PI.upd rt u) γ' (γ' k) r)
    (own : ∀ k r b, (k, some r) ∈ u → Owns (γ' k) b r → w.heap.size ≤ b ∧ b < w'.heap.size) (np : ∀ k r, (k, some r) ∈ u → r.par = false)
    (disj : ∀ k r k' r' b, (k, some r) ∈ u → (k', some r') ∈ u → k ≠ k' → Owns (γ' k) b r → ¬ Owns (γ' k') b r') :
    Mem X (PI.upd rt u) w' R γ' ∧ ExtAll (hp w) (hp w') rt (PI.upd rt u) γ γ' := by
  have inU : ∀ k r', k ∈ u.map (·.1) → PI.upd rt u k = some r' → (k, some r') ∈ u := by
    intro k r' hk hr
    rcases upd_cases hd rt k with ⟨h, _⟩ | ⟨y, h1, h2⟩
    · exact absurd hk h
    · obtain ⟨z, hz⟩ := Option.isSome_iff_exists.1 (hf _ h1).2
      simp only at hz; subst hz
      rw [hr] at h2; simp only [Option.getD_some, Option.some.injEq] at h2; subst h2; exact h1
  have none' : ∀ k, k ∈ u.map (·.1) → rt k = none := by
    intro k hk
    obtain ⟨x, hx, rfl⟩ := List.mem_map.1 hk
    exact (hf x hx).1
  refine M.upd (fun k => k ∈ u.map (·.1)) al (fun k hk => ⟨upd_none hk, same k hk⟩) (fun k r hk hr => by rw [none' k hk] at hr; cases hr) (fun b hb => .inl (heap b hb)) (fun _ h => h) (fun _ h => .inl h)
    (fun E k r' hk hr => root E k r' (inU k r' hk hr)) ?_ ?_ ?_
  · intro k r' b hk hr ho
    obtain ⟨h1, h2⟩ := own k r' b (inU k r' hk hr) ho
    exact ⟨fun hR => absurd (M.rLt b hR) (Nat.not_lt.2 h1), h2, .inl (Nat.le_trans M.alike.size h1), .inl h1⟩
  · intro k k' r r' b hne hk hk' hr hr' ho
    exact disj k r k' r' b (inU k r hk hr) (inU k' r' hk' hr') hne ho
  · intro k r' hk hr
    have := np k r' (inU k r' hk hr)
    cases r' with
    | box p c => cases p <;> simp_all [Root.par, ParR]
    | row p v rows foc => cases p <;> simp_all [Root.par, ParR]
    | frow => trivial
    | dead => trivial
def Gm.set (γ : Gm) (k : Nat) (g : Gk) : Gm := fun m => if m = k then g else γ m
theorem Gm.set_eq (γ : Gm) (k : Nat) (g : Gk) : Gm.set γ k g k = g := by simp [Gm.set]
theorem Gm.set_ne (γ : Gm) {k m : Nat} (g : Gk) (h : m ≠ k) : Gm.set γ k g m = γ m := by simp [Gm.set, h]
def nilGk : Gk := ⟨none, 0, fun _ => False⟩
theorem op_nilroot (M : Mem X rt w R γ) (C : chkOp P op.op .nilroot = true) (H : ((POp.nilroot).rm cfg d env).run call rt = some (v, u, l)) : Did P X rt w R γ a op v u := by
  obtain ⟨h0, l', H⟩ := ab_run H
  have := ret_run H; simp only [Prod.mk.injEq] at this; obtain ⟨rfl, rfl, _⟩ := this
  have hex : (execOp a.eval op).run P w = .ok (.value (.slice none 0 0)) w := by
    cases ho : op.op <;> simp only [ho, chkOp, Bool.false_eq_true] at C
    all_goals
      rename_i x
      cases x <;> simp only [Bool.false_eq_true] at C
      have := constOk_sc C
      simp only [sc] at this; subst this
      simp [execOp, ho, Act.eval]
  have h1 : (d, some (Root.row false 0 [] none)) ∈ [(d, some (Root.row false 0 [] none))] := by simp
  obtain ⟨M', E'⟩ := M.fresh (w' := w) (u := [(d, some (.row false 0 [] none))]) (γ' := Gm.set γ d nilGk) (by simp [distinct]) (by simp [h0]) (.refl w) (fun k hk => Gm.set_ne γ _ (by simpa using hk)) (fun _ _ => rfl)
    (fun _ k r hk => by
      simp only [List.mem_singleton, Prod.mk.injEq, Option.some.injEq] at hk; obtain ⟨rfl, rfl⟩ := hk
      rw [Gm.set_eq]; exact ⟨.e .nil, by simp⟩)
    (fun k r b hk ho => by
      simp only [List.mem_singleton, Prod.mk.injEq, Option.some.injEq] at hk; obtain ⟨rfl, rfl⟩ := hk
      rw [Gm.set_eq] at ho; exact ho.elim)
    (fun k r hk => by simp only [List.mem_singleton, Prod.mk.injEq, Option.some.injEq] at hk; obtain ⟨rfl, rfl⟩ := hk; rfl)
    (fun k r k' r' b hk hk' hne => by
      simp only [List.mem_singleton, Prod.mk.injEq, Option.some.injEq] at hk hk'
      exact absurd (hk.1.trans hk'.1.symm) hne)
  have e1 : PI.upd rt [(d, some (.row false 0 [] none))] d = some (.row false 0 [] none) := upd_new (by simp [distinct]) h1
  refine ⟨_, _, w, hex, .inl rfl, R, _, M', E', fun _ h => h, fun _ _ => rfl, ⟨none, 0, rfl, ⟨Nat.le_refl _, by simp⟩, by rw [e1]; rfl, fun rows hr => ?_⟩⟩
  rw [e1] at hr
  simp only [rowsAt, eff, Option.some.injEq] at hr; subst hr
  exact ⟨Nat.le_refl _, fun _ => by rw [Gm.set_eq]; exact ⟨rfl, rfl⟩⟩
theorem boxed_all (k : Nat) : ∀ (j : Nat) (cs : List PI.C), ∀ x ∈ (boxed k j cs).2, x.2 = some (.row false 0 [] none)
  | j, [], x, h => by simp [boxed] at h
  | j, c :: cs, x, h => by
    have ih := boxed_all k (j + 1) cs x
    cases c <;> simp only [boxed, List.mem_cons] at h <;> first | exact ih h | (rcases h with rfl | h <;> first | rfl | exact ih h)
theorem boxed_leaf {h h' : Hp} {R' : Nat → Prop} {rt' : Rt} {k : Nat} (hR : ∀ b, R b → R' b) (hh : ∀ b, R b → h' b = h b) (E : ExtAll h h' rt rt' γ γ') : ∀ {j : Nat} {cs : List PI.C} {vs : List Value}, Pw (Leaf h R rt γ) cs vs →
    (∀ x ∈ (boxed k j cs).2, rt' x.1 = some (.row false 0 [] none) ∧ (γ' x.1).addr = none ∧ (γ' x.1).cap = 0) → Pw (Leaf h' R' rt' γ') (boxed k j cs).1 vs := by
  intro j cs
  induction cs generalizing j with
  | nil => intro vs H _; cases H; exact .nil
  | cons c cs ih =>
    intro vs H N
    cases H with
    | @cons _ x _ xs a b =>
      have other : ∀ (h1 : (boxed k j (c :: cs)).1 = c :: (boxed k (j + 1) cs).1) (h2 : (boxed k j (c :: cs)).2 = (boxed k (j + 1) cs).2), Pw (Leaf h' R' rt' γ') (boxed k j (c :: cs)).1 (x :: xs) := by
        intro h1 h2
        rw [h1]
        exact .cons (a.mono hR hh E) (ih b (by rw [← h2]; exact N))
      cases c
      case nil =>
        have e := VR_nil (h := h) (R := R) (rt := rt) (γ := γ) a
        subst e
        obtain ⟨n1, n2, n3⟩ := N (rkey k j, some (.row false 0 [] none)) (by simp [boxed])
        refine .cons ⟨none, 0, rfl, ⟨Nat.le_refl _, by simp⟩, by rw [n1]; rfl, fun rows hr => ?_⟩ (ih b fun x hx => N x (by simp [boxed, hx]))
        rw [n1] at hr
        simp only [rowsAt, eff, Option.some.injEq] at hr; subst hr
        exact ⟨Nat.le_refl _, fun _ => ⟨n2.symm, n3.symm⟩⟩
      all_goals exact other rfl rfl
theorem did_box (M : Mem X rt w R γ) {cs : List PI.C} {vs : List Value} {elem : TypeId} {cs' : List PI.C} {rows : Ups} (hpw : Pw (Leaf (hp w) R rt γ) cs vs)
    (hrows : ∀ x ∈ rows, x.2 = some (.row false 0 [] none))
    (hl : ∀ {h' : Hp} {R' : Nat → Prop} {rt' : Rt} {γ' : Gm}, (∀ b, R b → R' b) → (∀ b, R b → h' b = hp w b) → ExtAll (hp w) h' rt rt' γ γ' →
      (∀ x ∈ rows, rt' x.1 = some (.row false 0 [] none) ∧ (γ' x.1).addr = none ∧ (γ' x.1).cap = 0) → Pw (Leaf h' R' rt' γ') cs' vs)
    (hd : distinct (((d, some (Root.box false cs')) :: rows).map (·.1)) = true) (h0 : rt d = none) (hn : ∀ x ∈ rows, rt x.1 = none)
    (hex : (execOp a.eval op).run P w = .ok (.value (.pointer (some ⟨w.heap.size, 0, none⟩))) { w with heap := w.heap.push (.cells vs.toArray elem) }) :
    Did P X rt w R γ a op (.one (.bptr d 0)) ((d, some (.box false cs')) :: rows) := by
  have hdr : d ∉ rows.map (·.1) := by rw [List.map_cons, distinct_cons] at hd; exact hd.1
  let g : Gk := ⟨some ⟨w.heap.size, 0, none⟩, 0, fun b => b = w.heap.size⟩
  let γ' : Gm := fun m => if m = d then g else if m ∈ rows.map (·.1) then nilGk else γ m
  have gd : γ' d = g := by simp [γ']
  have gr : ∀ m, m ≠ d → m ∈ rows.map (·.1) → γ' m = nilGk := fun m h1 h2 => by simp only [γ', h1, if_false, h2, if_true]
  have hu : ∀ {k : Nat} {r : Root}, (k, some r) ∈ (d, some (Root.box false cs')) :: rows → (k = d ∧ r = .box false cs') ∨ (k ≠ d ∧ k ∈ rows.map (·.1) ∧ r = .row false 0 [] none) := by
    intro k r hk
    rcases List.mem_cons.1 hk with h | h
    · simp only [Prod.mk.injEq, Option.some.injEq] at h; exact .inl h
    · have h2 : k ∈ rows.map (·.1) := List.mem_map.2 ⟨_, h, rfl⟩
      have := hrows _ h; simp only [Option.some.injEq] at this
      exact .inr ⟨fun e => hdr (e ▸ h2), h2, this⟩
  have hpeq : hp { w with heap := w.heap.push (.cells vs.toArray elem) } w.heap.size = some (.cells vs.toArray elem) := hp_push_eq
  obtain ⟨M', E'⟩ := M.fresh (w' := { w with heap := w.heap.push (.cells vs.toArray elem) }) (u := (d, some (.box false cs')) :: rows) (γ' := γ') hd
    (fun x hx => by
      rcases List.mem_cons.1 hx with rfl | h
      · exact ⟨h0, rfl⟩
      · exact ⟨hn x h, by rw [hrows x h]; rfl⟩)
    alike_push (fun k hk => by
      simp only [List.map_cons, List.mem_cons, not_or] at hk
      simp only [γ', hk.1, if_false, hk.2]) (fun b hb => hp_push_lt hb)
    (fun E k r hk => by
      rcases hu hk with ⟨he, rfl⟩ | ⟨h1, h2, rfl⟩
      · rw [he, gd]
        refine ⟨w.heap.size, vs.toArray, elem, rfl, rfl, fun _ h => h, hpeq, ?_⟩
        refine hl (fun _ h => h) (fun b hb => hp_push_lt (M.rLt b hb)) E fun x hx => ?_
        have hx2 : x.1 ∈ rows.map (·.1) := List.mem_map.2 ⟨x, hx, rfl⟩
        have hx3 := hrows x hx
        refine ⟨?_, ?_⟩
        · have : (x.1, some (Root.row false 0 [] none)) ∈ (d, some (Root.box false cs')) :: rows := by rw [← hx3]; exact List.mem_cons_of_mem _ hx
          exact upd_new hd this
        · rw [gr x.1 (fun e => hdr (e ▸ hx2)) hx2]; exact ⟨rfl, rfl⟩
      · rw [gr k h1 h2]; exact ⟨.e .nil, by simp⟩)
    (fun k r b hk ho => by
      rcases hu hk with ⟨rfl, rfl⟩ | ⟨h1, h2, rfl⟩
      · rw [gd] at ho
        have ho : b = w.heap.size := ho
        subst ho; simp
      · rw [gr k h1 h2] at ho; exact ho.elim)
    (fun k r hk => by
      rcases hu hk with ⟨rfl, rfl⟩ | ⟨h1, h2, rfl⟩ <;> rfl)
    (fun k r k' r' b hk hk' hne ho ho' => by
      rcases hu hk with ⟨rfl, rfl⟩ | ⟨h1, h2, rfl⟩
      · rcases hu hk' with ⟨rfl, rfl⟩ | ⟨h1, h2, rfl⟩
        · exact hne rfl
        · rw [gr k' h1 h2] at ho'; exact ho'.elim
      · rw [gr k h1 h2] at ho; exact ho.elim)
  refine ⟨_, _, _, hex, .inl rfl, R, γ', M', E', fun _ h => h, fun b hb => hp_push_lt (M.rLt b hb), ⟨_, rfl, ?_, fun p cells hc => ?_⟩⟩
  · rw [upd_new hd (List.mem_cons_self ..)]; rfl
  · rw [gd]; exact ⟨_, rfl, rfl⟩
theorem consts_leaf {cs : List PI.C} {vs : List Value} (H : constsOk cs vs = true) : Pw (Leaf (hp w) R rt γ) cs vs := (constsOk_pw H).mono fun _ _ h => constOk_leaf h
theorem zeroOk_some {t : TypeId} {cs : List PI.C} (H : zeroOk P t cs = true) : ∃ i z, P.info? t = some i ∧ i.zero = some z ∧ constsOk cs z.cells.toList = true := by
  unfold zeroOk at H
  split at H
  · split at H
    · exact ⟨_, _, by assumption, by assumption, H⟩
    · cases H
  · cases H
theorem op_alloc (M : Mem X rt w R γ) {zero : List PI.C} (C : chkOp P op.op (.alloc zero) = true) (H : ((POp.alloc zero).rm cfg d env).run call rt = some (v, u, l)) : Did P X rt w R γ a op v u := by
  obtain ⟨h0, l', H⟩ := ab_run H
  have := ret_run H; simp only [Prod.mk.injEq] at this; obtain ⟨rfl, rfl, _⟩ := this
  cases ho : op.op <;> simp only [ho, chkOp, Bool.false_eq_true] at C
  rename_i e
  obtain ⟨i, z, hi, hz, hc⟩ := zeroOk_some C
  refine did_box (rows := []) (elem := e) M (consts_leaf hc) (by simp) (fun hR hh E _ => (consts_leaf hc).mono fun _ _ k => k.mono hR hh E) (by simp [distinct]) h0 (by simp) ?_
  simp [execOp, ho, Instr.alloc, run_zero hi hz, newVar, run_new]
theorem VR_cells {h : Hp} {x : Value} {cs : List PI.C} (H : VR h R rt γ v x) (hc : v.cells = some cs) : Pw (Leaf h R rt γ) cs x.cells.toList := by
  cases v with
  | one c =>
    simp only [V.cells, Option.some.injEq] at hc; subst hc
    rw [cells_one (Leaf.one H)]
    exact .cons H .nil
  | agg cs' =>
    simp only [V.cells, Option.some.injEq] at hc; subst hc
    obtain ⟨arr, rfl, hp⟩ := H
    exact hp
  | tup vs => cases hc
theorem op_box (M : Mem X rt w R γ) (E : EnvR (hp w) R rt γ env a.tmps) {y : Opd} (C : chkOp P op.op (.box y) = true) (hd : distinct (u.map (·.1)) = true) (H : ((POp.box y).rm cfg d env).run call rt = some (v, u, l)) : Did P X rt w R γ a op v u := by
  obtain ⟨v', hv, H⟩ := opd_run H
  obtain ⟨cs, hcs, H⟩ := optRM_run H
  obtain ⟨h0, l', H⟩ := ab_run H
  obtain ⟨hn, l'', H⟩ := absent_run H
  have := ret_run H; simp only [Prod.mk.injEq] at this; obtain ⟨rfl, rfl, _⟩ := this
  cases ho : op.op <;> simp only [ho, chkOp, Bool.false_eq_true] at C
  rename_i e x
  have hpw := VR_cells (opd_eval E C hv) hcs
  refine did_box (elem := e) M hpw (boxed_all d 0 cs) (fun hR hh E N => boxed_leaf hR hh E hpw N) hd h0 hn ?_
  simp [execOp, ho, Instr.box, newVar, run_new]
end
end Go.Proofs.Ytdgamfanffnhaaa.PI

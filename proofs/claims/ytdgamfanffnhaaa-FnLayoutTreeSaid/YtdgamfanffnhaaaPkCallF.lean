/-
  PI's calls are the machine's. No condition.
-/
import Derived.Test.YtdgamfanffnhaaaPkCallE
set_option linter.unusedVariables false
set_option linter.unusedSimpArgs false
namespace Go.Proofs.Ytdgamfanffnhaaa.PI
open Go
section
variable {P : Program} {X : Ctx} {rt : Rt} {w w' : World} {R R' : Nat → Prop} {γ γ' : Gm} {h h' : Hp}
theorem pairwise_all {α : Type} {r : α → α → Prop} (hs : ∀ a b, r a b → r b a) : ∀ {l : List α}, l.Pairwise r → ∀ a ∈ l, ∀ b ∈ l, a ≠ b → r a b
  | [], _, a, ha => by cases ha
  | x :: l, H, a, ha => by
    rw [List.pairwise_cons] at H
    intro b hb hne
    rcases List.mem_cons.1 ha with ha | ha <;> rcases List.mem_cons.1 hb with hb | hb
    · exact absurd (ha.trans hb.symm) hne
    · rw [ha]; exact H.1 b hb
    · rw [hb]; exact hs _ _ (H.1 a ha)
    · exact pairwise_all hs H.2 a ha b hb hne
theorem call_after (M : Mem X rt w R γ) {B Br Bo : Nat → Prop} {ts : List Take} {ps : List (PI.C × Value)} {res : Res} {x : Value} {back : Ups} {d : Nat} {ez : List Ent}
    (hPS : PS (hp w) rt γ B ts ps) (hn : (ts.map Take.key).Nodup) (hpar : ∀ t ∈ ts, ∀ t' ∈ ts, t.par = t'.par)
    (hRT : RT (hp w') R' Br res.1 x) (hO : Outs (hp w) (hp w') Bo ps res.2) (hb : giveBack ts res.2 = some back)
    (c1 : ∀ b, Br b → ¬ Bo b) (c2 : ∀ b, Br b → w.heap.size ≤ b ∧ b < w'.heap.size) (c3 : ∀ b, Bo b → (B b ∨ w.heap.size ≤ b) ∧ b < w'.heap.size)
    (c4 : ∀ b, b < w.heap.size → ¬ B b → hp w' b = hp w b) (al : World.alike w w') (habs : ∀ x ∈ (bornR d res.1).2, rt x.1 = none)
    (hez : ∀ e ∈ ez, e.g = γ e.k ∧ ∃ rows, e.r = .frow rows ∧ rowsAt (rt e.k) = some rows ∧ ((∃ vs rs foc, rt e.k = some (.row false vs rs foc) ∧ rows = eff rs foc) ∨ rt e.k = some (.frow rows)))
    (rmono : ∀ b, R b → R' b) (rsub : ∀ b, R' b → R b ∨ (X.fz = true ∧ ∃ e ∈ ez, OwnedBy rt γ e.k b)) (hz : ∀ e ∈ ez, ∀ b, OwnedBy rt γ e.k b → R' b)
    (hd : distinct (((bornR d res.1).2 ++ back ++ upsOf ez).map (·.1)) = true) : After X rt w R γ (bornR d res.1).1 ((bornR d res.1).2 ++ back ++ upsOf ez) x w' := by
  have hBR : ∀ b, R b → ¬ B b := by
    intro b hR hB
    obtain ⟨t, _, r, hr, ho⟩ := hPS.sub b hB
    exact M.ownR t.key r b hr ho hR
  have hRsame : ∀ b, R b → hp w' b = hp w b := fun b hR => c4 b (M.rLt b hR) (hBR b hR)
  obtain ⟨eb, e1, b1, l1⟩ := bornR_ents (d := d) hRT
  obtain ⟨ek, f1, f2, f3, f4⟩ := backs M (hPS.toPZ M hn (Z := B) fun b h => .inl h) hO hb hn c4 hRsame fun b h => (c3 b h).1
  have hu : (bornR d res.1).2 ++ back ++ upsOf ez = upsOf (eb ++ (ek ++ ez)) := by rw [e1, f1, upsOf_append, upsOf_append, List.append_assoc]
  rw [hu] at hd ⊢
  rw [upsOf_keys, distinct_nodup] at hd
  have olt : ∀ {k b : Nat}, OwnedBy rt γ k b → b < w.heap.size := fun ⟨r, hr, ho⟩ => M.ownLt _ r _ hr ho
  have kz : ∀ {e e' : Ent}, e ∈ ek → e' ∈ ez → e.k ≠ e'.k := by
    intro e e' he he' hk
    rw [List.map_append, List.nodup_append, List.map_append, List.nodup_append] at hd
    exact hd.2.1.2.2 _ (List.mem_map_of_mem he) _ (List.mem_map_of_mem he') hk
  have tk : ∀ {t : Take}, t ∈ ts → ∃ e ∈ ek, e.k = t.key := by
    intro t ht
    have : t.key ∈ ek.map (·.k) := by rw [f2]; exact List.mem_map_of_mem ht
    obtain ⟨e, he, hk⟩ := List.mem_map.1 this
    exact ⟨e, he, hk⟩
  have kt : ∀ {e : Ent}, e ∈ ek → ∃ t ∈ ts, t.key = e.k := by
    intro e he
    have : e.k ∈ ts.map Take.key := by rw [← f2]; exact List.mem_map_of_mem he
    obtain ⟨t, ht, hk⟩ := List.mem_map.1 this
    exact ⟨t, ht, hk⟩
  have noR : ∀ {k b : Nat}, OwnedBy rt γ k b → (∀ e ∈ ez, k ≠ e.k) → ¬ R' b := by
    intro k b ho hk hR
    rcases rsub b hR with q | ⟨_, e, he, q⟩
    · obtain ⟨r, hr, ho⟩ := ho
      exact M.ownR k r b hr ho q
    · exact OwnedBy.apart M (hk e he) ho q
  have rlt : ∀ b, R' b → b < w.heap.size := by
    intro b hR
    rcases rsub b hR with q | ⟨_, e, he, q⟩
    · exact M.rLt b q
    · exact olt q
  have hR'same : ∀ b, R' b → hp w' b = hp w b := by
    intro b hR
    refine c4 b (rlt b hR) fun hB => ?_
    obtain ⟨t, ht, ho⟩ := hPS.sub b hB
    obtain ⟨e, he, hk⟩ := tk ht
    exact noR ho (fun e' he' => hk ▸ kz he he') hR
  have ebnone : ∀ e ∈ eb, rt e.k = none := by
    intro e he
    exact habs (e.k, some e.r) (by rw [e1]; exact List.mem_map.2 ⟨e, he, rfl⟩)
  have pw : (eb ++ (ek ++ ez)).Pairwise fun e e' => ∀ b, Owns e.g b e.r → ¬ Owns e'.g b e'.r := by
    have zno : ∀ e ∈ ez, ∀ b, ¬ Owns e.g b e.r := by
      intro e he b ho
      obtain ⟨_, rows, hr, _⟩ := hez e he
      rw [hr] at ho; exact ho
    rw [List.pairwise_append, List.pairwise_append]
    refine ⟨b1.disj, ⟨f4, ?_, fun e _ e' he' b _ ho => zno e' he' b ho⟩, ?_⟩
    · clear hd hu f1 f2 f3 f4 tk kt kz noR hR'same rlt rsub hz
      induction ez with
      | nil => exact .nil
      | cons z ez ih =>
        rw [List.pairwise_cons]
        exact ⟨fun e' he' b _ ho => zno e' (List.mem_cons_of_mem _ he') b ho, ih (fun e he => hez e (List.mem_cons_of_mem _ he)) fun e he => zno e (List.mem_cons_of_mem _ he)⟩
    · intro e he e' he' b ho ho'
      have q := b1.own e he b ho
      rcases List.mem_append.1 he' with he' | he'
      · rcases (f3 e' he').2.2.2.1 b ho' with k | ⟨k, _⟩
        · exact c1 b q k
        · exact absurd (olt k) (Nat.not_lt.2 (c2 b q).1)
      · exact zno e' he' b ho'
  have hME : Mem X (PI.upd rt (upsOf (eb ++ (ek ++ ez)))) w' R' (gOf γ (eb ++ (ek ++ ez))) ∧ ExtAll (hp w) (hp w') rt (PI.upd rt (upsOf (eb ++ (ek ++ ez)))) γ (gOf γ (eb ++ (ek ++ ez))) := by
    refine M.ents (R' := R') hd al ?_ rmono ?_ ?_ ?_ ?_ ?_ ?_
    · intro b hb
      by_cases hB : B b
      · obtain ⟨t, ht, ho⟩ := hPS.sub b hB
        obtain ⟨e, he, hk⟩ := tk ht
        exact .inr ⟨e, by simp [he], hk ▸ ho⟩
      · exact .inl (c4 b hb hB)
    · intro b hR
      rcases rsub b hR with q | ⟨q1, e, he, q⟩
      · exact .inl q
      · refine .inr ⟨q1, ?_, Nat.lt_of_lt_of_le (olt q) al.size, .inr ⟨e, by simp [he], q⟩⟩
        obtain ⟨r, hr, ho⟩ := q
        obtain ⟨_, rows, _, _, ⟨vs, rs, foc, h1, _⟩ | h1⟩ := hez e he
        · rw [h1] at hr; injection hr with hr; subst hr
          rcases M.ownIn _ _ b h1 ho with k | k
          · exact k
          · simp [Root.par] at k
        · rw [h1] at hr; injection hr with hr; subst hr; exact ho.elim
    · intro e he r hr
      rcases List.mem_append.1 he with he | he
      · rw [ebnone e he] at hr; cases hr
      · rcases List.mem_append.1 he with he | he
        · exact ((f3 e he).1 r hr).1
        · obtain ⟨hg, rows, h0, _, ⟨vs, rs, foc, h1, rfl⟩ | h1⟩ := hez e he
          · rw [h1] at hr; injection hr with hr; subst hr
            rw [h0, hg]; exact RowExt.refl _ _
          · rw [h1] at hr; injection hr with hr; subst hr
            rw [h0, hg]; exact RowExt.refl _ _
    · intro hi E e he
      rcases List.mem_append.1 he with he | he
      · exact b1.root _ _ hi.left e he
      · rcases List.mem_append.1 he with he | he
        · exact (f3 e he).2.1 _ _ _ rmono
        · obtain ⟨hg, rows, h0, h1, _⟩ := hez e he
          rw [h0, hg]
          refine ⟨(rows_ro M rmono h1 fun r hr b ho => hz e he b ⟨r, hr, ho⟩).mono (fun _ h => h) hR'same, fun hne => ?_⟩
          obtain ⟨b, _, hb, _⟩ := row_at M h1 hne
          exact ⟨b, hb⟩
    · intro e he b ho
      rcases List.mem_append.1 he with he | he
      · have q := c2 b (b1.own e he b ho)
        exact ⟨fun hR => absurd (rlt b hR) (Nat.not_lt.2 q.1), q.2, .inl (Nat.le_trans M.alike.size q.1), .inl q.1⟩
      · rcases List.mem_append.1 he with he | he
        · obtain ⟨g1, g2, g3, g4, r, hr⟩ := f3 e he
          rcases g4 b ho with q | ⟨q, _⟩
          · obtain ⟨q1, q2⟩ := c3 b q
            rcases q1 with q1 | q1
            · obtain ⟨t, ht, hO⟩ := hPS.sub b q1
              obtain ⟨e', he', hk⟩ := tk ht
              refine ⟨noR hO fun z hz => hk ▸ kz he' hz, q2, ?_, .inr ⟨e', by simp [he'], hk ▸ hO⟩⟩
              obtain ⟨r', hr', ho'⟩ := hO
              rcases M.ownIn t.key r' b hr' ho' with k | ⟨k1, k2⟩
              · exact .inl k
              · refine .inr ⟨?_, k2⟩
                obtain ⟨r2, hr2, hp2⟩ := hPS.par t ht
                rw [hr'] at hr2; injection hr2 with hr2; subst hr2
                obtain ⟨t3, ht3, hk3⟩ := kt he
                obtain ⟨r3, hr3, hp3⟩ := hPS.par t3 ht3
                rw [hk3] at hr3
                rw [← (g1 r3 hr3).2, hp3, ← hpar t ht t3 ht3, ← hp2]; exact k1
            · exact ⟨fun hR => absurd (rlt b hR) (Nat.not_lt.2 q1), q2, .inl (Nat.le_trans M.alike.size q1), .inl q1⟩
          · refine ⟨noR q fun z hz => kz he hz, Nat.lt_of_lt_of_le (olt q) al.size, ?_, .inr ⟨e, by simp [he], q⟩⟩
            obtain ⟨r', hr', ho'⟩ := q
            rw [← (g1 r' hr').2]
            exact M.ownIn _ r' b hr' ho'
        · obtain ⟨_, rows, h0, _⟩ := hez e he
          rw [h0] at ho; exact ho.elim
    · intro e he e' he' hne b ho
      exact pairwise_all (r := fun e e' => ∀ b, Owns e.g b e.r → ¬ Owns e'.g b e'.r) (fun _ _ H b h1 h2 => H b h2 h1) pw e he e' he' (fun q => hne (by rw [q])) b ho
    · intro e he
      rcases List.mem_append.1 he with he | he
      · have := b1.par e he
        cases hr : e.r with
        | box p c => rw [hr] at this; simp only [Root.par] at this; subst this; trivial
        | row p v rows foc => rw [hr] at this; simp only [Root.par] at this; subst this; trivial
        | frow => trivial
        | dead => trivial
      · rcases List.mem_append.1 he with he | he
        · exact (f3 e he).2.2.1
        · obtain ⟨_, rows, h0, _⟩ := hez e he
          rw [h0]; trivial
  exact ⟨R', _, hME.1, hME.2, rmono, hRsame, l1 _ _ (inst_upd hd).left⟩
def Callable (P : Program) (f : Nat) : Prop := ∃ fn, P.funcs[f]? = some fn ∧ (fn.name == "runtime.NumGoroutine") = false ∧ fn.body.isNone = false
def DidCall (P : Program) (X : Ctx) (rt : Rt) (w : World) (R : Nat → Prop) (γ : Gm) (a : Act) (op : Oper) (v : V) (u : Ups) : Prop :=
  ∃ f args, (execOp a.eval op).run P w = .ok (.enter f args) w ∧ Calls P f args w fun e w' => ∃ x, e = .returned x ∧ After X rt w R γ v u x w'
def Done (P : Program) (X : Ctx) (rt : Rt) (w : World) (R : Nat → Prop) (γ : Gm) (a : Act) (op : Oper) (v : V) (u : Ups) : Prop :=
  Did P X rt w R γ a op v u ∨ DidCall P X rt w R γ a op v u
def CallsOk (P : Program) (own : Nat → List Bool) (call : Nat → List V → Option Res) : Prop := ∀ f args res, call f args = some res → Callable P f ∧ Good P own f args res
variable {env : List (Nat × V)} {a : Act} {op : Oper} {call : Nat → List V → Option Res} {cfg : Cfg} {d : Nat} {v : V} {u : Ups} {l : List Nat}
theorem calls_pi (M : Mem X rt w R γ) (hcall : CallsOk P cfg.own call) (hfz : cfg.fz = X.fz) {f : Nat} {vs : List V} {xs : List Value} (hxs : Pw (VR (hp w) R rt γ) vs xs)
    (H : (handArgs (cfg.own f) vs fun vs' ks ts => if allNew ks ts then .call f vs' (doCall cfg.fz d ks ts) else .fail).run call rt = some (v, u, l)) (hd : distinct (u.map (·.1)) = true) :
    Callable P f ∧ Calls P f xs.toArray w fun e w' => ∃ x, e = .returned x ∧ After X rt w R γ v u x w' := by
  obtain ⟨vs', ks, ts, l1, hand, H⟩ := hand_run M.foc H
  split at H
  case isFalse => exact (fail_run H).elim
  rename_i hnew
  obtain ⟨hn, hk, hpar⟩ := allNew_spec hnew
  obtain ⟨res, hc, H⟩ := call_run H
  obtain ⟨back, hb, H⟩ := optRM_run H
  obtain ⟨habs, l2, H⟩ := absent_run H
  obtain ⟨cb, good⟩ := hcall f vs' res hc
  refine ⟨cb, ?_⟩
  let Rk : Nat → Prop := fun b => R b ∨ ∃ k ∈ ks, OwnedBy rt γ k b
  obtain ⟨B, ps, hAR, hPS⟩ := hand_own (R' := Rk) M (fun b h => .inl h) hand hxs hn fun k hk r hr b ho => .inr ⟨k, hk, r, hr, ho⟩
  have hBk : ∀ b, B b → ¬ Rk b := by
    rintro b hB (hR | ⟨k, hk', ho⟩)
    · obtain ⟨t, _, r, hr, ho⟩ := hPS.sub b hB
      exact M.ownR t.key r b hr ho hR
    · obtain ⟨t, ht, ho'⟩ := hPS.sub b hB
      exact OwnedBy.apart M (k := t.key) (k' := k) (fun e => hk t ht (e ▸ hk')) ho' ho
  have hBlt : ∀ b, B b → b < w.heap.size := by
    intro b hB
    obtain ⟨t, _, r, hr, ho⟩ := hPS.sub b hB
    exact M.ownLt t.key r b hr ho
  have hRlt : ∀ b, Rk b → b < w.heap.size := by
    rintro b (hR | ⟨k, hk', r, hr, ho⟩)
    · exact M.rLt b hR
    · exact M.ownLt k r b hr ho
  refine (good w Rk B xs ps hAR hBk hBlt hRlt).mono ?_
  rintro e w' ⟨x, rfl, Br, Bo, hRT, hO, c1, c2, c3, c4, al⟩
  refine ⟨x, rfl, ?_⟩
  split at H
  · rename_i hq
    simp only [Bool.and_eq_true] at hq
    split at H
    case isFalse => exact (fail_run H).elim
    rename_i hf
    obtain ⟨ez, l3, z1, z2, H⟩ := freeze_run M H
    have := ret_run H; simp only [Prod.mk.injEq] at this; obtain ⟨rfl, rfl, _⟩ := this
    have kz : ∀ k, k ∈ ks ↔ ∃ e ∈ ez, e.k = k := by intro k; rw [← z1]; simp
    refine call_after M hPS hn hpar hRT hO hb c1 c2 c3 c4 al habs z2 (fun b h => .inl h) ?_ ?_ hd
    · rintro b (hR | ⟨k, hk', ho⟩)
      · exact .inl hR
      · obtain ⟨e, he, rfl⟩ := (kz k).1 hk'
        exact .inr ⟨hfz ▸ hf, e, he, ho⟩
    · intro e he b ho
      exact .inr ⟨e.k, (kz _).2 ⟨e, he, rfl⟩, ho⟩
  · rename_i hq
    have := ret_run H; simp only [Prod.mk.injEq] at this; obtain ⟨rfl, rfl, _⟩ := this
    have e0 : (bornR d res.1).2 ++ back = (bornR d res.1).2 ++ back ++ upsOf [] := by simp [upsOf]
    by_cases hks : ks = []
    · subst hks
      rw [e0] at hd ⊢
      refine call_after (R' := Rk) M hPS hn hpar hRT hO hb c1 c2 c3 c4 al habs (ez := []) (by simp) (fun b h => .inl h) ?_ (by simp) hd
      rintro b (hR | ⟨k, hk', _⟩)
      · exact .inl hR
      · cases hk'
    · have hs : res.1.hasRsl = false := by
        cases hh : res.1.hasRsl with
        | false => rfl
        | true =>
          exfalso; apply hq
          rw [hh]; cases ks with
          | nil => exact absurd rfl hks
          | cons => rfl
      rw [e0] at hd ⊢
      exact call_after (R' := R) M hPS hn hpar (hRT.noR hs) hO hb c1 c2 c3 c4 al habs (ez := []) (by simp) (fun b h => h) (fun b h => .inl h) (by simp) hd
theorem run_callFunc {f : Nat} (C : Callable P f) (args : Array Value) : (callFunc f args).run P w = .ok (.enter f args) w := by
  obtain ⟨fn, h1, h2, h3⟩ := C
  have h2' : fn.name ≠ "runtime.NumGoroutine" := by simpa using h2
  have h3' : fn.body ≠ none := by intro e; rw [e] at h3; simp at h3
  simp [callFunc, h1, h2', h3']
theorem op_call (M : Mem X rt w R γ) (E : EnvR (hp w) R rt γ env a.tmps) (hcall : CallsOk P cfg.own call) (hfz : cfg.fz = X.fz) {f : Nat} {ys : List Opd} (C : chkOp P op.op (.call f ys) = true) (hd : distinct (u.map (·.1)) = true) (H : ((POp.call f ys).rm cfg d env).run call rt = some (v, u, l)) : Done P X rt w R γ a op v u := by
  obtain ⟨vs, hv, H⟩ := opds_run H
  cases ho : op.op <;> simp only [ho, chkOp, Bool.false_eq_true] at C
  rename_i c
  obtain ⟨cl, xs, tys⟩ := c
  cases cl <;> first | (simp at C; done) | skip
  rename_i x
  cases x <;> first | (simp at C; done) | skip
  rename_i g
  simp only [Bool.and_eq_true, beq_iff_eq] at C
  obtain ⟨rfl, C⟩ := C
  have hxs := opds_eval E (opdsOk_pw C) hv
  obtain ⟨cb, hc⟩ := calls_pi M hcall hfz hxs H hd
  refine .inr ⟨f, _, ?_, hc⟩
  have this := run_callFunc (P := P) (w := w) cb (xs.map a.eval)
  have hl : (xs.toList.map a.eval).toArray = xs.map a.eval := by rw [← Array.toList_map]
  rw [hl]
  simpa [execOp, ho, resolve, Act.eval, Deferred.ofValue, invoke] using this
theorem op_callv (M : Mem X rt w R γ) (E : EnvR (hp w) R rt γ env a.tmps) (hcall : CallsOk P cfg.own call) (hfz : cfg.fz = X.fz) {y : Opd} {ys : List Opd} (C : chkOp P op.op (.callv y ys) = true) (hd : distinct (u.map (·.1)) = true) (H : ((POp.callv y ys).rm cfg d env).run call rt = some (v, u, l)) : Done P X rt w R γ a op v u := by
  obtain ⟨fv, hf, H⟩ := opd_run H
  cases ho : op.op <;> simp only [ho, chkOp, Bool.false_eq_true] at C
  rename_i c
  obtain ⟨cl, xs, tys⟩ := c
  cases cl <;> first | (simp at C; done) | skip
  rename_i x
  simp only [Bool.and_eq_true] at C
  split at H
  case h_2 => exact (fail_run H).elim
  rename_i f
  obtain ⟨vs, hv, H⟩ := opds_run H
  have hx := VR_fn (opd_eval E C.1 hf)
  have hxs := opds_eval E (opdsOk_pw C.2) hv
  obtain ⟨cb, hc⟩ := calls_pi M hcall hfz hxs H hd
  refine .inr ⟨f, _, ?_, hc⟩
  have this := run_callFunc (P := P) (w := w) cb (xs.map a.eval)
  have hl : (xs.toList.map a.eval).toArray = xs.map a.eval := by rw [← Array.toList_map]
  rw [hl]
  simpa [execOp, ho, resolve, hx, Deferred.ofValue, invoke] using this
end
end Go.Proofs.Ytdgamfanffnhaaa.PI

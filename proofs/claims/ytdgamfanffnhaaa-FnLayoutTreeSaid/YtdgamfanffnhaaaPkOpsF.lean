/-
  What PI's operations that build structs and make or grow rows say of the machine's. No condition.
-/
import Derived.Test.YtdgamfanffnhaaaPkOpsE
import Derived.Laws.Tables
import Derived.Laws.MakeOwn
import Derived.Laws.Append
set_option linter.unusedVariables false
set_option linter.unusedSimpArgs false
namespace Go.Proofs.Ytdgamfanffnhaaa.PI
open Go
section
variable {P : Program} {X : Ctx} {rt : Rt} {w w' : World} {R : Nat → Prop} {γ γ' : Gm} {env : List (Nat × V)} {a : Act} {op : Oper} {call : Nat → List V → Option Res} {cfg : Cfg} {d : Nat} {v : V} {u : Ups} {l : List Nat}
theorem fold_set : ∀ (vs : List Value) (k off : Nat) (cells : Array Value), off + k + vs.length ≤ cells.size →
    ((vs.zipIdx k).foldl (fun (cs : Array Value) (c, j) => cs.setIfInBounds (off + j) c) cells).toList = setAt cells.toList (off + k) vs
  | [], k, off, cells, _ => by simp [setAt]
  | v :: vs, k, off, cells, h => by
    simp only [List.length_cons] at h
    simp only [List.zipIdx_cons, List.foldl_cons]
    rw [fold_set vs (k + 1) off _ (by simp; omega)]
    simp only [Array.toList_setIfInBounds]
    apply List.ext_getElem?
    intro j
    rw [setAt_at (by simp; omega), setAt_at (by simp; omega), List.getElem?_set]
    simp only [List.length_cons, Array.length_toList]
    by_cases h1 : j = off + k
    · subst h1
      rw [if_neg (by omega), if_pos rfl, if_pos (by omega), if_pos (by omega)]; simp
    · by_cases h2 : off + (k + 1) ≤ j ∧ j < off + (k + 1) + vs.length
      · rw [if_pos h2, if_pos (by omega), show j - (off + k) = (j - (off + (k + 1))) + 1 by omega]; simp
      · rw [if_neg h2, if_neg (by omega), if_neg (by omega)]
theorem fill_step (vs cells : Array Value) (off : Nat) (h : off + vs.size ≤ cells.size) : (vs.zipIdx.foldl (fun (cs : Array Value) (c, j) => cs.setIfInBounds (off + j) c) cells).toList = setAt cells.toList off vs.toList := by
  rw [← Array.foldl_toList, Array.toList_zipIdx]
  exact fold_set vs.toList 0 off cells (by simpa using h)
theorem fill_parts {h : Hp} {place : Nat → Option (Nat × Nat)} : ∀ {ps : List (Nat × Nat × V)} {qs : List (Nat × Value)} {cs cs' : List PI.C} {cells : Array Value}, Pw (fun (p : Nat × Nat × V) (q : Nat × Value) => place q.1 = some (p.1, p.2.1) ∧ VR h R rt γ p.2.2 q.2) ps qs →
    setParts cs ps = some cs' → Pw (Leaf h R rt γ) cs cells.toList → ∃ cells', Instr.fill place cells qs = some cells' ∧ Pw (Leaf h R rt γ) cs' cells'.toList
  | [], qs, cs, cs', cells, hp, hs, hc => by
    cases hp
    simp only [setParts, Option.some.injEq] at hs; subst hs
    exact ⟨cells, rfl, hc⟩
  | (off, n, v) :: ps, qs, cs, cs', cells, hp, hs, hc => by
    cases hp with
    | @cons _ q _ qs hq ht =>
      obtain ⟨i, x⟩ := q
      obtain ⟨h1, h2⟩ := hq
      simp only at h1 h2
      simp only [setParts] at hs
      split at hs
      · rename_i xs hxs
        split at hs
        · rename_i hle
          have hpw := VR_cells h2 hxs
          have hl := hpw.len
          have hcl := hc.len
          simp only [Array.length_toList] at hl hcl
          obtain ⟨e1, e2⟩ := hle
          have hst := fill_step x.cells cells off (by omega)
          obtain ⟨cells', h3, h4⟩ := fill_parts (cells := x.cells.zipIdx.foldl (fun (cs : Array Value) (c, j) => cs.setIfInBounds (off + j) c) cells) ht hs (by rw [hst]; exact setAt_pw hc hpw)
          refine ⟨cells', ?_, h4⟩
          simp only [Instr.fill, h1]
          rw [if_neg (by simp; omega)]
          exact h3
        · cases hs
      · cases hs
theorem mapM_some {α β : Type} {g : α → Option β} : ∀ {fs : List α}, (∀ f ∈ fs, (g f).isSome = true) → ∃ ps, fs.mapM g = some ps ∧ ∀ i : Nat, ps[i]? = (fs[i]?).bind g
  | [], _ => ⟨[], rfl, by simp⟩
  | f :: fs, h => by
    obtain ⟨p, hp⟩ := Option.isSome_iff_exists.1 (h f (by simp))
    obtain ⟨ps, h1, h2⟩ := mapM_some (fs := fs) fun f k => h f (by simp [k])
    refine ⟨p :: ps, by simp [List.mapM_cons, hp, h1], fun i => ?_⟩
    cases i with
    | zero => simp [hp]
    | succ i => simpa using h2 i
theorem partsOk_pw {fs : List Field} {g : Nat → Option (Nat × Nat)} (hg : ∀ i f, fs[i]? = some f → g i = (P.info? f.type).map fun z => (f.offset, z.size)) : ∀ {ps : List (Nat × Nat × Opd)} {qs : List (Nat × Operand)}, partsOk P fs ps qs = true →
    Pw (fun (p : Nat × Nat × Opd) (q : Nat × Operand) => g q.1 = some (p.1, p.2.1) ∧ opdOk p.2.2 q.2 = true) ps qs
  | [], [], _ => .nil
  | [], _ :: _, h => by simp [partsOk] at h
  | _ :: _, [], h => by simp [partsOk] at h
  | (off, n, x) :: ps, (i, y) :: qs, h => by
    simp only [partsOk, Bool.and_eq_true] at h
    obtain ⟨h1, h2, h3⟩ := h
    refine .cons ⟨?_, h2⟩ (partsOk_pw hg h3)
    split at h1
    · rename_i f hf
      simp only [Bool.and_eq_true, beq_iff_eq] at h1
      obtain ⟨rfl, h4⟩ := h1
      obtain ⟨z, hz, rfl⟩ := sizeIs_some h4
      simp [hg i f hf, hz]
    · cases h1
theorem zip_eval {h : Hp} (E : EnvR h R rt γ env a.tmps) {place : Nat → Option (Nat × Nat)} : ∀ {ps : List (Nat × Nat × Opd)} {qs : List (Nat × Operand)} {vs : List V},
    Pw (fun (p : Nat × Nat × Opd) (q : Nat × Operand) => place q.1 = some (p.1, p.2.1) ∧ opdOk p.2.2 q.2 = true) ps qs → Pw (fun (x : Opd) v => x.val env = some v) (ps.map (·.2.2)) vs →
    Pw (fun (p : Nat × Nat × V) (q : Nat × Value) => place q.1 = some (p.1, p.2.1) ∧ VR h R rt γ p.2.2 q.2) ((ps.zip vs).map fun (p, v) => (p.1, p.2.1, v)) (qs.map fun (i, x) => (i, a.eval x))
  | [], qs, vs, h1, h2 => by cases h1; simp only [List.map_nil] at h2; cases h2; exact .nil
  | p :: ps, qs, vs, h1, h2 => by
    cases h1 with
    | cons x t =>
      simp only [List.map_cons] at h2
      cases h2 with
      | cons y s => exact .cons ⟨x.1, opd_eval E x.2 y⟩ (zip_eval E t s)
theorem op_build (M : Mem X rt w R γ) (E : EnvR (hp w) R rt γ env a.tmps) {zero : List PI.C} {parts : List (Nat × Nat × Opd)} (C : chkOp P op.op (.build zero parts) = true) (H : ((POp.build zero parts).rm cfg d env).run call rt = some (v, u, l)) : Did P X rt w R γ a op v u := by
  obtain ⟨vs, hvs, H⟩ := opds_run H
  obtain ⟨cs, hcs, H⟩ := optRM_run H
  have := ret_run H; simp only [Prod.mk.injEq] at this; obtain ⟨rfl, rfl, _⟩ := this
  cases ho : op.op <;> simp only [ho, chkOp, Bool.false_eq_true, Bool.and_eq_true] at C
  rename_i t qs
  obtain ⟨C1, C2⟩ := C
  obtain ⟨it, z, hit, hz, hc⟩ := zeroOk_some C1
  split at C2
  · rename_i fs hf
    simp only [Bool.and_eq_true, List.all_eq_true] at C2
    obtain ⟨C2, C3⟩ := C2
    have hs := fieldsOf_some hf
    obtain ⟨ps, hps, hat⟩ := mapM_some (g := fun f : Field => (P.info? f.type).map fun i => (f.offset, i.size)) (fs := fs) (fun f k => by simpa using C2 f k)
    have pw := partsOk_pw (P := P) (fs := fs) (g := fun i => ps[i]?) (fun i f hf => by show ps[i]? = _; rw [hat, hf]; rfl) C3
    obtain ⟨cells, h1, h2⟩ := fill_parts (zip_eval E pw hvs) hcs (consts_leaf (w := w) (R := R) (rt := rt) (γ := γ) hc)
    have hb : P.built t (qs.map fun (i, x) => (i, a.eval x)).toList = some cells := by
      have e1 : (qs.map fun (i, x) => (i, a.eval x)).toList = qs.toList.map fun (i, x) => (i, a.eval x) := by simp
      simp only [Program.built, hit, hs, hz, hps, e1]
      simpa using h1
    refine Did.val M (x := .agg cells) ?_ ⟨cells, rfl, h2⟩
    simp only [execOp, ho, Sem.run_bind, run_build w t _ cells hb, Result.andThen_ok]
    rfl
  · cases C2
theorem upd_row (M : Mem X rt w R γ) {k : Nat} {vs : Nat} {rows : List (List PI.C)} {us : Ups} {g : Gk} (hmem : ∀ x ∈ us, x.2 = none ∧ ∃ vs rows foc, rt x.1 = some (.row false vs rows foc))
    (hd : distinct (((k, some (Root.row false vs rows none)) :: us).map (·.1)) = true) (al : World.alike w w')
    (heap : ∀ b, b < w.heap.size → hp w' b = hp w b ∨ ∃ r, rt k = some r ∧ Owns (γ k) b r)
    (ext : ∀ r, rt k = some r → r.par = false ∧ Ext (hp w) (hp w') (γ k) g r (.row false vs rows none))
    (own : Own (hp w') R g.own [.sl rows] [.slice g.addr rows.length g.cap])
    (sub : ∀ b, g.own b → (w.heap.size ≤ b ∧ b < w'.heap.size) ∨ (∃ r, rt k = some r ∧ Owns (γ k) b r) ∨ ∃ x ∈ us, (γ x.1).own b) :
    Mem X (PI.upd rt ((k, some (.row false vs rows none)) :: us)) w' R (Gm.set γ k g) ∧ ExtAll (hp w) (hp w') rt (PI.upd rt ((k, some (.row false vs rows none)) :: us)) γ (Gm.set γ k g) ∧
      PI.upd rt ((k, some (.row false vs rows none)) :: us) k = some (.row false vs rows none) := by
  have hkr : k ∉ us.map (·.1) := by rw [List.map_cons, distinct_cons] at hd; exact hd.1
  let U : Ups := (k, some (.row false vs rows none)) :: us
  have uk : PI.upd rt U k = some (.row false vs rows none) := upd_new hd (List.mem_cons_self ..)
  have hu2 : ∀ {m : Nat} {q : Root}, m ∈ U.map (·.1) → PI.upd rt U m = some q → (m = k ∧ q = .row false vs rows none) ∨ q = .dead := by
    intro m q hm hq
    rcases upd_cases hd rt m with ⟨h, _⟩ | ⟨z, h1, h2⟩
    · exact absurd hm h
    · have h5 : some q = some (z.getD .dead) := hq.symm.trans h2
      rcases List.mem_cons.1 h1 with h | h
      · simp only [Prod.mk.injEq] at h; obtain ⟨e1, rfl⟩ := h
        simp only [Option.getD_some, Option.some.injEq] at h5; exact .inl ⟨e1, h5⟩
      · have h3 := (hmem _ h).1; simp only at h3; subst h3
        simp only [Option.getD_none, Option.some.injEq] at h5
        exact .inr h5
  obtain ⟨M', E'⟩ := M.upd (w' := w') (R' := R) (γ' := Gm.set γ k g) (rt' := PI.upd rt U) (fun m => m ∈ U.map (·.1)) al (fun m hm => ⟨upd_none hm, Gm.set_ne _ _ (fun e => hm (by rw [e]; exact List.mem_cons_self ..))⟩)
    (fun m q hm hq => by
      by_cases hmk : m = k
      · rw [hmk] at hq ⊢
        refine ⟨_, uk, ?_⟩
        rw [Gm.set_eq]; exact (ext q hq).2
      · rcases List.mem_cons.1 hm with h | h
        · exact absurd h hmk
        · obtain ⟨z, hz, rfl⟩ := List.mem_map.1 h
          refine ⟨.dead, ?_, ?_⟩
          · have h3 := (hmem z hz).1
            have : (z.1, none) ∈ U := by rw [← h3]; exact List.mem_cons_of_mem _ hz
            exact upd_some hd this
          · cases q <;> trivial)
    (fun z hz => by
      rcases heap z hz with h | ⟨r, h1, h2⟩
      · exact .inl h
      · exact .inr ⟨k, r, List.mem_cons_self .., h1, h2⟩)
    (fun _ h => h) (fun _ h => .inl h)
    (fun _ m q hm hq => by
      rcases hu2 hm hq with ⟨rfl, rfl⟩ | rfl
      · rw [Gm.set_eq]; exact ⟨own, by simp⟩
      · trivial)
    (fun m q z hm hq ho => by
      rcases hu2 hm hq with ⟨rfl, rfl⟩ | rfl
      · rw [Gm.set_eq] at ho
        rcases sub z ho with ⟨h1, h2⟩ | ⟨r, h1, h2⟩ | ⟨x, hx, hxo⟩
        · exact ⟨fun hR => absurd (M.rLt z hR) (Nat.not_lt.2 h1), h2, .inl (Nat.le_trans M.alike.size h1), .inl h1⟩
        · refine ⟨M.ownR m r z h1 h2, Nat.lt_of_lt_of_le (M.ownLt m r z h1 h2) al.size, ?_, .inr ⟨m, r, hm, h1, h2⟩⟩
          rcases M.ownIn m r z h1 h2 with h | h
          · exact .inl h
          · rw [(ext r h1).1] at h; simp at h
        · obtain ⟨_, vs2, rows2, foc2, hr2⟩ := hmem x hx
          have ho2 : Owns (γ x.1) z (Root.row false vs2 rows2 foc2) := hxo
          refine ⟨M.ownR x.1 _ z hr2 ho2, Nat.lt_of_lt_of_le (M.ownLt x.1 _ z hr2 ho2) al.size, .inl ?_, .inr ⟨x.1, _, List.mem_cons_of_mem _ (List.mem_map.2 ⟨x, hx, rfl⟩), hr2, ho2⟩⟩
          rcases M.ownIn x.1 _ z hr2 ho2 with h | h
          · exact h
          · simp [Root.par] at h
      · exact ho.elim)
    (fun m m' q q' z hne hm hm' hq hq' ho ho' => by
      rcases hu2 hm hq with ⟨rfl, rfl⟩ | rfl
      · rcases hu2 hm' hq' with ⟨rfl, rfl⟩ | rfl
        · exact hne rfl
        · exact ho'.elim
      · exact ho.elim)
    (fun m q hm hq => by
      rcases hu2 hm hq with ⟨rfl, rfl⟩ | rfl <;> trivial)
  exact ⟨M', E', uk⟩
end
end Go.Proofs.Ytdgamfanffnhaaa.PI

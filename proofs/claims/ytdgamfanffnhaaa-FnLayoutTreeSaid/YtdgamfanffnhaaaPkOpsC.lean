/-
  What PI's loads say of the machine's. No condition.
-/
import Derived.Test.YtdgamfanffnhaaaPkOpsB
set_option linter.unusedVariables false
set_option linter.unusedSimpArgs false
namespace Go.Proofs.Ytdgamfanffnhaaa.PI
open Go
section
variable {P : Program} {X : Ctx} {rt : Rt} {w w' : World} {R : Nat → Prop} {γ γ' : Gm} {env : List (Nat × V)} {a : Act} {op : Oper} {call : Nat → List V → Option Res} {cfg : Cfg} {d : Nat} {v : V} {u : Ups} {l : List Nat}
theorem Ro.pw {h : Hp} {cs : List PI.C} {vs : List Value} (H : Ro h R cs vs) : Pw (fun c v => Ro h R [c] [v]) cs vs := by
  induction cs generalizing vs with
  | nil => cases vs with
    | nil => exact .nil
    | cons => cases H
  | cons c cs ih => cases vs with
    | nil => cases H
    | cons v vs => exact .cons H.head (ih H.tail)
theorem Ro.leaf {h : Hp} {c : PI.C} {v : Value} (H : Ro h R [c] [v]) : Leaf h R rt γ (liftRo c) v := by
  cases c
  case sl rows =>
    show Ro h R [.rsl rows] [v]
    cases H with
    | sc s _ => exact s.elim
    | e s _ => have := s.eq (.inl rfl); exact .e (.inr (by rw [this])) .nil
    | row s a b c d e f g _ => have := s.eq (.inl rfl); subst this; exact .row (.inr rfl) a b c d e f g .nil
  case nil =>
    show Ro h R [.rsl []] [v]
    have : PI.sc .nil v := H.sc_inv (by simp [isRow]) (by simp)
    simp only [PI.sc] at this; subst this
    exact .e (.inr rfl) .nil
  case ref => exact absurd (H.sc_inv (by simp [isRow]) (by simp)) (by simp [PI.sc])
  case nref => exact absurd (H.sc_inv (by simp [isRow]) (by simp)) (by simp [PI.sc])
  case view => exact absurd (H.sc_inv (by simp [isRow]) (by simp)) (by simp [PI.sc])
  case bptr => exact absurd (H.sc_inv (by simp [isRow]) (by simp)) (by simp [PI.sc])
  case eptr => exact absurd (H.sc_inv (by simp [isRow]) (by simp)) (by simp [PI.sc])
  all_goals exact H
theorem scalar_liftRo {c : PI.C} (h : c.scalar = true) : liftRo c = c := by cases c <;> simp_all [C.scalar, liftRo]
theorem Pw.map {α β δ : Type} {r : α → β → Prop} {s : δ → β → Prop} {f : α → δ} {p : List α} {q : List β} (H : Pw r p q) (h : ∀ x y, r x y → s (f x) y) : Pw s (p.map f) q := by
  induction H with
  | nil => exact .nil
  | cons x _ ih => exact .cons (h _ _ x) ih
theorem run_loadVar {t : TypeId} {D : TypeDesc} {inf : TypeInfo} {b o : Nat} {arr : Array Value} {elem : TypeId} {fr : Nat × Nat} {cs : List PI.C} {agg : Bool} (hD : P.underlying t = some D) (hi : P.info? t = some inf) (ha : aggOf D = agg)
    (hb : hp w b = some (.cells arr elem fr)) (ho : o + inf.size ≤ arr.size) (hp : Pw (Leaf (hp w) R rt γ) cs (cut o inf.size arr.toList)) (hv : mkV agg cs = some v) :
    ∃ x, (loadVar t ⟨b, o, none⟩).run P w = .ok x w ∧ VR (PI.hp w) R rt γ v x := by
  subst ha
  unfold mkV at hv
  split at hv
  · rename_i hagg
    simp only [Option.some.injEq] at hv; subst hv
    refine ⟨.agg (cut o inf.size arr.toList).toArray, ?_, _, rfl, hp⟩
    simp [loadVar, run_isAgg hD, hagg, run_sizeOf hi, run_load_row hb ho]
  · rename_i hagg
    have hagg : aggOf D = false := by simpa using hagg
    split at hv
    · rename_i c
      simp only [Option.some.injEq] at hv; subst hv
      generalize hq : cut o inf.size arr.toList = q at hp
      cases hp with
      | @cons _ x _ m hl ht =>
        cases ht
        refine ⟨x, ?_, hl⟩
        have h1 : arr.toList[o]? = some x := by
          have h2 : (cut o inf.size arr.toList)[0]? = some x := by rw [hq]; rfl
          simp only [cut, List.getElem?_take, List.getElem?_drop, Nat.add_zero] at h2
          split at h2
          · exact h2
          · cases h2
        have := run_load_cell (P := P) hb h1
        simp only [loadVar, Sem.run_bind, run_isAgg hD, Result.andThen_ok, hagg, Bool.false_eq_true, if_false, this]
    · cases hv
theorem Own.cell {h : Hp} {B : Nat → Prop} {cs : List PI.C} {vs : List Value} (H : Own h R B cs vs) : ∀ {j : Nat} {c : PI.C}, cs[j]? = some c → ∃ x, vs[j]? = some x ∧
    ((c.isSl = false ∧ Ro h R [c] [x]) ∨ ∃ rows p cap, c = .sl rows ∧ x = .slice p rows.length cap ∧ rows.length ≤ cap) := by
  induction H with
  | nil => intro j c hj; simp at hj
  | ro a r _ ih =>
    intro j c hj
    cases j with
    | zero => simp at hj; subst hj; exact ⟨_, rfl, .inl ⟨a, r⟩⟩
    | succ j => simp at hj; obtain ⟨x, h1, h2⟩ := ih hj; exact ⟨x, by simpa using h1, h2⟩
  | e _ ih =>
    intro j c hj
    cases j with
    | zero => simp at hj; subst hj; exact ⟨_, rfl, .inr ⟨_, _, _, rfl, rfl, Nat.le_refl _⟩⟩
    | succ j => simp at hj; obtain ⟨x, h1, h2⟩ := ih hj; exact ⟨x, by simpa using h1, h2⟩
  | row _ _ _ d _ _ _ _ _ _ _ _ _ _ ih =>
    intro j c hj
    cases j with
    | zero => simp at hj; subst hj; exact ⟨_, rfl, .inr ⟨_, _, _, rfl, rfl, d⟩⟩
    | succ j => simp at hj; obtain ⟨x, h1, h2⟩ := ih hj; exact ⟨x, by simpa using h1, h2⟩
theorem flat_at {α : Type} {rows : List (List α)} {i sz j : Nat} {el : List α} (hu : ∀ x ∈ rows, x.length = sz) (hi : rows[i]? = some el) (hj : j < sz) : rows.flatten[i * sz + j]? = el[j]? := by
  have h := cut_flat hu hi
  rw [← h]
  simp only [cut, List.getElem?_take, List.getElem?_drop]
  rw [if_pos hj]
def liftC (key vs i j : Nat) : PI.C → PI.C
  | .sl rows => .nref key vs i j rows.length
  | c => c
theorem liftOwn_at (key vs i : Nat) : ∀ (o : Nat) (cs : List PI.C) (j : Nat), (liftOwn key vs i o cs)[j]? = (cs[j]?).map (liftC key vs i (o + j))
  | o, [], j => by simp [liftOwn]
  | o, c :: cs, j => by
    have h : liftOwn key vs i o (c :: cs) = liftC key vs i o c :: liftOwn key vs i (o + 1) cs := by cases c <;> rfl
    rw [h]
    cases j with
    | zero => simp
    | succ j => simp only [List.getElem?_cons_succ, liftOwn_at key vs i (o + 1) cs j]; rw [show o + 1 + j = o + (j + 1) by omega]
theorem liftOwn_len (key vs i : Nat) : ∀ (o : Nat) (cs : List PI.C), (liftOwn key vs i o cs).length = cs.length
  | _, [] => rfl
  | o, c :: cs => by
    have h : liftOwn key vs i o (c :: cs) = liftC key vs i o c :: liftOwn key vs i (o + 1) cs := by cases c <;> rfl
    rw [h]; simp [liftOwn_len key vs i (o + 1) cs]
theorem op_load (M : Mem X rt w R γ) (E : EnvR (hp w) R rt γ env a.tmps) {agg : Bool} {sz : Nat} {y : Opd} (C : chkOp P op.op (.load agg sz y) = true) (H : ((POp.load agg sz y).rm cfg d env).run call rt = some (v, u, l)) : Did P X rt w R γ a op v u := by
  obtain ⟨v', hv, H⟩ := opd_run H
  cases ho : op.op <;> simp only [ho, chkOp, Bool.false_eq_true, Bool.and_eq_true] at C
  rename_i t x
  obtain ⟨C1, C2, C3⟩ := C
  obtain ⟨inf, hi, rfl⟩ := sizeIs_some C2
  obtain ⟨D, hD, hk⟩ := descIs_some C3
  have hk : aggOf D = agg := by simpa using hk
  have hx := opd_eval E C1 hv
  have main : ∀ {b o : Nat} {arr : Array Value} {elem : TypeId} {fr : Nat × Nat} {cs : List PI.C}, a.eval x = .pointer (some ⟨b, o, none⟩) → hp w b = some (.cells arr elem fr) → o + inf.size ≤ arr.size → Pw (Leaf (hp w) R rt γ) cs (cut o inf.size arr.toList) →
      mkV agg cs = some v → u = [] → Did P X rt w R γ a op v u := by
    intro b o arr elem fr cs e hb h1 h2 h3 h4
    subst h4
    obtain ⟨z, hz, hvr⟩ := run_loadVar hD hi hk hb h1 h2 h3
    exact Did.val M (x := z) (by simp [execOp, ho, e, Instr.loadAt, Instr.sureAddr, hz]) hvr
  split at H
  · rename_i c
    unfold loadAt at H
    split at H
    ·
      rename_i k off
      obtain ⟨r, l', hr, H⟩ := rd_run H
      split at H
      · rename_i p cells
        split at H
        · rename_i hle
          obtain ⟨h1, rfl⟩ := retO_run H
          obtain ⟨ad, e, _, hb⟩ := hx
          obtain ⟨b, h2, rfl⟩ := hb p cells hr
          obtain ⟨b', arr, elem, g1, _, _, g2, g3⟩ := M.root k _ hr
          have : b = b' := by rw [h2] at g1; injection g1 with g1; injection g1
          subst this
          have hlen := g3.len
          exact main e g2 (by simp at hlen; omega) (g3.cut off inf.size) h1 rfl
        · exact (fail_run H).elim
      · exact (fail_run H).elim
    ·
      rename_i k tot i off
      obtain ⟨r, l', hr, H⟩ := rd_run H
      obtain ⟨ad, e, hit, _, hb⟩ := hx
      split at H
      · rename_i p vs rows foc
        obtain ⟨hq, H⟩ := chk_run H
        have hq := of_decide_eq_true hq
        obtain ⟨el, base, he, _, _, H⟩ := elAt_run H (M.root k _ hr).2
        split at H
        · rename_i hle
          obtain ⟨h1, rfl⟩ := retO_run H
          have hra : rowsAt (rt k) = some (eff rows foc) := by rw [hr]; rfl
          obtain ⟨b, sz, hu, hb1, rfl⟩ := (hb _ hra).2 (by rw [eff_len, hq])
          obtain ⟨_, h | ⟨b', arr, elem, sz', B1, hne, g1, g2, g3, g4, g5, g6, _, _, _⟩⟩ := (M.root k _ hr).1.inv
          · rw [h.1] at he; simp at he
          · have : b = b' := by rw [hb1] at g1; injection g1 with g1; injection g1
            subst this
            have s1 := g3 el (List.mem_of_getElem? he)
            have s2 := hu el (List.mem_of_getElem? he)
            have : sz = sz' := by omega
            subst this
            have hlt := lt_of_at he
            have hb2 : i * sz + sz ≤ (eff rows foc).length * sz := by rw [← Nat.succ_mul]; exact Nat.mul_le_mul_right _ hlt
            have hb3 : (eff rows foc).length * sz ≤ arr.size := by rw [g5]; exact Nat.mul_le_mul_right _ g4
            refine main e g2 (by omega) ?_ h1 rfl
            refine Pw.of ?_ ?_
            · rw [liftOwn_len]; simp [cut]; omega
            · intro j c z hc hz
              rw [liftOwn_at] at hc
              simp only [cut, List.getElem?_take, List.getElem?_drop] at hc hz
              split at hc
              · rename_i hj
                rw [if_pos hj] at hz
                cases hcj : el[off + j]? with
                | none => rw [hcj] at hc; simp at hc
                | some c0 =>
                  rw [hcj] at hc
                  simp only [Option.map_some, Option.some.injEq] at hc
                  have hfl : (eff rows foc).flatten[i * sz + (off + j)]? = some c0 := by rw [flat_at hu he (by omega), hcj]
                  obtain ⟨z', hz', hcase⟩ := g6.cell hfl
                  rw [List.getElem?_take, if_pos (by omega)] at hz'
                  have : z = z' := by rw [Nat.add_assoc, hz'] at hz; injection hz with hz; exact hz.symm
                  subst this
                  rcases hcase with ⟨hns, hro⟩ | ⟨rows', p', cap', rfl, rfl, hcap⟩
                  · have h3 : liftC k vs i (off + j) c0 = c0 := by cases c0 <;> first | rfl | simp [C.isSl] at hns
                    rw [h3] at hc; subst hc
                    replace hro : Ro (hp w) R [c0] [z] := hro.mono (fun _ k => k.elim) (fun _ k => k.elim)
                    cases c0 <;> first | exact hro | exact (absurd (hro.sc_inv (by simp [isRow]) (by simp)) (by simp [PI.sc]))
                  · simp only [liftC] at hc; subst hc
                    refine ⟨p', cap', rfl, hcap, by rw [hr]; rfl, fun p2 vs2 rows2 foc2 hr2 => ?_⟩
                    rw [hr] at hr2; simp only [Option.some.injEq, Root.row.injEq] at hr2
                    obtain ⟨_, rfl, rfl, rfl⟩ := hr2
                    refine ⟨Nat.le_refl _, fun _ => ⟨⟨_, _, _, rfl⟩, hlt, b, sz, arr, elem, hu, by omega, hb1, g2, ?_⟩⟩
                    exact hz'
              · simp at hc
        · exact (fail_run H).elim
      · rename_i rows
        obtain ⟨hq, H⟩ := chk_run H
        have hq := of_decide_eq_true hq
        obtain ⟨el, he, H⟩ := el_run H
        split at H
        · rename_i hle
          obtain ⟨h1, rfl⟩ := retO_run H
          have hra : rowsAt (rt k) = some rows := by rw [hr]; rfl
          obtain ⟨b, sz, hu, hb1, rfl⟩ := (hb _ hra).2 hq.symm
          have hne : rows ≠ [] := by intro h; rw [h] at he; simp at he
          obtain ⟨q1, _⟩ := M.root k _ hr
          rw [hb1] at q1
          obtain ⟨_, _, h | ⟨b', off', arr, elem, fr, sz', _, g1, _, g2, g3, g4, g5⟩⟩ := q1.row_inv (.inr rfl)
          · exact absurd h hne
          · have g1' : b = b' ∧ 0 = off' := by injection g1 with g1; injection g1 with g1 g2 _; exact ⟨g1, g2⟩
            obtain ⟨rfl, rfl⟩ := g1'
            have s1 := g3 el (List.mem_of_getElem? he)
            have s2 := hu el (List.mem_of_getElem? he)
            have : sz = sz' := by omega
            subst this
            have hlt := lt_of_at he
            have hb2 : i * sz + sz ≤ rows.length * sz := by rw [← Nat.succ_mul]; exact Nat.mul_le_mul_right _ hlt
            refine main e g2 (by omega) ?_ h1 rfl
            have h5 := g5.cut (i * sz) sz
            rw [cut_flat g3 he, cut_cut _ _ _ _ _ hb2] at h5
            have h6 := h5.cut off inf.size
            rw [cut_cut _ _ _ _ _ (by omega)] at h6
            rw [Nat.zero_add] at h6
            refine Pw.mono (r := fun c v => Ro (hp w) R [c] [v] ∧ c.scalar = true) ?_ fun c v h => by rw [← scalar_liftRo h.2]; exact h.1.leaf
            refine Pw.of h6.len fun j c z hc hz => ?_
            obtain ⟨z', hz', hro⟩ := h6.pw.at hc
            rw [hz] at hz'; injection hz' with hz'; subst hz'
            exact ⟨hro, List.all_eq_true.1 hle.2 c (List.mem_of_getElem? hc)⟩
        · exact (fail_run H).elim
      · exact (fail_run H).elim
    ·
      rename_i el off
      split at H
      · rename_i hle
        obtain ⟨h1, rfl⟩ := retO_run H
        have hr' : Ro (hp w) R [_] [_] := hx
        generalize e : a.eval x = z at hr'
        cases hr' with
        | sc s _ => exact s.elim
        | e s _ => rcases s with s | s <;> cases s
        | row s => rcases s with s | s <;> cases s
        | @ptr _ _ _ _ b arr elem fr o r1 r2 r3 r4 _ =>
          refine main e r2 (by omega) ?_ h1 rfl
          have := r4.cut off inf.size
          have h8 := cut_cut arr.toList o el.length off inf.size hle
          unfold cut at h8 this
          rw [h8] at this
          exact this.pw.map fun c v h => h.leaf
      · exact (fail_run H).elim
    · exact (fail_run H).elim
  · exact (fail_run H).elim
end
end Go.Proofs.Ytdgamfanffnhaaa.PI

/-
  What is handed over at a call: values that are only read, values that are owned, and how PI's way of handing them over is the machine's. No condition.
-/
import Derived.Test.YtdgamfanffnhaaaPkOpsH
set_option linter.unusedVariables false
set_option linter.unusedSimpArgs false
namespace Go.Proofs.Ytdgamfanffnhaaa.PI
open Go
def RoV (h : Hp) (R : Nat → Prop) : V → Value → Prop
  | .one c, x => Ro h R [c] [x]
  | .agg cs, x => ∃ arr : Array Value, x = .agg arr ∧ Ro h R cs arr.toList
  | .tup _, _ => False
def RV (h : Hp) (R B : Nat → Prop) : V → Value → Prop
  | .one (.pt cells), x => ∃ b arr elem B1, x = .pointer (some ⟨b, 0, none⟩) ∧ h b = some (.cells arr elem (0, 0)) ∧ Own h R B1 cells arr.toList ∧ ¬ B1 b ∧ B b ∧ (∀ y, B1 y → B y)
  | .one c, x => Own h R B [c] [x]
  | .agg cs, x => ∃ arr : Array Value, x = .agg arr ∧ Own h R B cs arr.toList
  | .tup _, _ => False
inductive RVs (h : Hp) (R : Nat → Prop) : (Nat → Prop) → List V → List Value → Prop
  | nil {B} : RVs h R B [] []
  | cons {B B1 B2 v x vs xs} : RV h R B1 v x → RVs h R B2 vs xs → (∀ y, B1 y → ¬ B2 y) → (∀ y, B1 y → B y) → (∀ y, B2 y → B y) → RVs h R B (v :: vs) (x :: xs)
def RT (h : Hp) (R B : Nat → Prop) : V → Value → Prop
  | .tup vs, x => ∃ arr : Array Value, x = .tuple arr ∧ RVs h R B vs arr.toList
  | v, x => RV h R B v x
def parts : V → Value → List (C × Value)
  | .one c, x => match c with
    | .pt cells => [(.pt cells, x)]
    | .sl rows => [(.sl rows, x)]
    | _ => []
  | .agg cs, x => (cs.zip x.cells.toList).filter (·.1.isSl)
  | .tup _, _ => []
def ptPlain : V → Bool
  | .one (.pt cells) => cells.all C.plainRo
  | _ => true
inductive AR (h : Hp) (R : Nat → Prop) : (Nat → Prop) → List Bool → List V → List Value → List (C × Value) → Prop
  | nil {B fs} : AR h R B fs [] [] []
  | ro {B fs v x vs xs ps} : fs.headD false = false → RoV h R v x → AR h R B fs.tail vs xs ps → AR h R B fs (v :: vs) (x :: xs) ps
  | own {B B1 B2 fs v x vs xs ps} : RV h R B1 v x → ptPlain v = true → AR h R B2 fs vs xs ps → (∀ y, B1 y → ¬ B2 y) → (∀ y, B1 y → B y) → (∀ y, B2 y → B y) → AR h R B (true :: fs) (v :: vs) (x :: xs) (parts v x ++ ps)
def Out1 (h h' : Hp) (F : Nat → Prop) : C × Value → C → Prop
  | (.sl rows, x), .sl rows' => Own h' (fun _ => False) F [.sl rows'] [x] ∧ ∀ sz, (∀ el ∈ rows, el.length = sz) → ∀ el ∈ rows', el.length = sz
  | (.pt _, x), .pt cells' => ∃ b arr elem arr' elem', x = .pointer (some ⟨b, 0, none⟩) ∧ h b = some (.cells arr elem (0, 0)) ∧ h' b = some (.cells arr' elem' (0, 0)) ∧ arr'.size = arr.size ∧ cells'.length = arr'.size ∧ F b ∧
      ∀ (j : Nat) (c : C), cells'[j]? = some c → (c.scalar = true ∧ ∃ v, arr'.toList[j]? = some v ∧ sc c v) ∨ (c.scalar = false ∧ arr'.toList[j]? = arr.toList[j]?)
  | _, _ => False
inductive Outs (h h' : Hp) : (Nat → Prop) → List (C × Value) → List C → Prop
  | nil {B} : Outs h h' B [] []
  | cons {B B1 B2 p c ps cs} : Out1 h h' B1 p c → Outs h h' B2 ps cs → (∀ y, B1 y → ¬ B2 y) → (∀ y, B1 y → B y) → (∀ y, B2 y → B y) → Outs h h' B (p :: ps) (c :: cs)
def Post (w : World) (R B : Nat → Prop) (ps : List (C × Value)) (res : Res) (x : Value) (w' : World) : Prop :=
  ∃ Br Bo : Nat → Prop, RT (hp w') R Br res.1 x ∧ Outs (hp w) (hp w') Bo ps res.2 ∧ (∀ b, Br b → ¬ Bo b) ∧ (∀ b, Br b → w.heap.size ≤ b ∧ b < w'.heap.size) ∧
    (∀ b, Bo b → (B b ∨ w.heap.size ≤ b) ∧ b < w'.heap.size) ∧ (∀ b, b < w.heap.size → ¬ B b → hp w' b = hp w b) ∧ World.alike w w'
def Good (P : Program) (own : Nat → List Bool) (f : Nat) (args : List V) (res : Res) : Prop :=
  ∀ (w : World) (R B : Nat → Prop) (xs : List Value) (ps : List (C × Value)), AR (hp w) R B (own f) args xs ps → (∀ b, B b → ¬ R b) → (∀ b, B b → b < w.heap.size) → (∀ b, R b → b < w.heap.size) →
    Calls P f xs.toArray w fun e w' => ∃ x, e = .returned x ∧ Post w R B ps res x w'
inductive SnapC (rt : Rt) : C → C → List Nat → Prop
  | sc {c} : c.scalar = true → SnapC rt c c []
  | nl : SnapC rt .nil (.rsl []) []
  | rsl {rows} : SnapC rt (.rsl rows) (.rsl rows) []
  | rptr {el off} : SnapC rt (.rptr el off) (.rptr el off) []
  | ref {k len rows} : rowsAt (rt k) = some rows → rows.length = len → SnapC rt (.ref k len) (.rsl rows) [k]
  | view {k off len tot rows} : rowsAt (rt k) = some rows → rows.length = tot → off + len ≤ tot → SnapC rt (.view k off len tot) (.rsl (cut off len rows)) [k]
  | nref {k vs i j len p rows foc el rs} : rt k = some (.row p vs rows foc) → (eff rows foc)[i]? = some el → el[j]? = some (.sl rs) → rs.length = len → SnapC rt (.nref k vs i j len) (.rsl rs) [k]
inductive SnapCs (rt : Rt) : List C → List C → List Nat → Prop
  | nil : SnapCs rt [] [] []
  | cons {c c' cs cs' ks ks'} : SnapC rt c c' ks → SnapCs rt cs cs' ks' → SnapCs rt (c :: cs) (c' :: cs') (ks ++ ks')
inductive SnapV (rt : Rt) : V → V → List Nat → Prop
  | one {c c' ks} : SnapC rt c c' ks → SnapV rt (.one c) (.one c') ks
  | agg {cs cs' ks} : SnapCs rt cs cs' ks → SnapV rt (.agg cs) (.agg cs') ks
inductive TakeC (rt : Rt) : C → C → List Take → Prop
  | sc {c} : c.scalar = true → TakeC rt c c []
  | ref {k len par vs rows foc} : rt k = some (.row par vs rows foc) → rows.length = len → TakeC rt (.ref k len) (.sl (eff rows foc)) [.row k par vs]
  | nref {k vs i j len par rows foc el base rs} : rt k = some (.row par vs rows foc) → (eff rows foc)[i]? = some el → (∀ new, base.set i new = (eff rows foc).set i new) → base.length = rows.length → el[j]? = some (.sl rs) → rs.length = len →
      TakeC rt (.nref k vs i j len) (.sl rs) [.nrow k par vs base i el j]
inductive TakeCs (rt : Rt) : List C → List C → List Take → Prop
  | nil : TakeCs rt [] [] []
  | cons {c c' cs cs' ts ts'} : TakeC rt c c' ts → TakeCs rt cs cs' ts' → TakeCs rt (c :: cs) (c' :: cs') (ts ++ ts')
inductive TakeV (rt : Rt) : V → V → List Take → Prop
  | box {k par cells} : rt k = some (.box par cells) → cells.all C.plainRo = true → TakeV rt (.one (.bptr k 0)) (.one (.pt cells)) [.box k par cells]
  | one {c c' ts} : TakeC rt c c' ts → TakeV rt (.one c) (.one c') ts
  | agg {cs cs' ts} : TakeCs rt cs cs' ts → TakeV rt (.agg cs) (.agg cs') ts
inductive Hand (rt : Rt) : List Bool → List V → List V → List Nat → List Take → Prop
  | nil {fs} : Hand rt fs [] [] [] []
  | take {fs v v' vs vs' ks ts ts'} : TakeV rt v v' ts → Hand rt fs vs vs' ks ts' → Hand rt (true :: fs) (v :: vs) (v' :: vs') ks (ts ++ ts')
  | snap {fs v v' vs vs' ks ks' ts} : fs.headD false = false → SnapV rt v v' ks → Hand rt fs.tail vs vs' ks' ts → Hand rt fs (v :: vs) (v' :: vs') (ks ++ ks') ts
section
variable {P : Program} {X : Ctx} {rt : Rt} {w w' : World} {R : Nat → Prop} {γ γ' : Gm} {env : List (Nat × V)} {a : Act} {op : Oper} {call : Nat → List V → Option Res} {cfg : Cfg} {d : Nat} {v : V} {u : Ups} {l : List Nat}
def FocOk (rt : Rt) : Prop := ∀ k p vs rows foc, rt k = some (.row p vs rows foc) → ∀ j el, foc = some (j, el) → j < rows.length
theorem Mem.foc (M : Mem X rt w R γ) : FocOk rt := fun k _ _ _ _ hr => (M.root k _ hr).2
theorem rowsOf_run {k : Nat} {K : List (List PI.C) → RM} (H : (rowsOf k K).run call rt = some (v, u, l)) : ∃ rows l', rowsAt (rt k) = some rows ∧ (K rows).run call rt = some (v, u, l') := by
  unfold rowsOf at H
  obtain ⟨r, l1, hr, H⟩ := rd_run H
  split at H
  · exact ⟨_, l1, by rw [hr]; rfl, H⟩
  · exact ⟨_, l1, by rw [hr]; rfl, H⟩
  · exact (fail_run H).elim
theorem nested_run {el : List PI.C} {j : Nat} {K : List (List PI.C) → RM} {res : V × Ups × List Nat} (H : (nested el j K).run call rt = some res) : ∃ rs, el[j]? = some (.sl rs) ∧ (K rs).run call rt = some res := by
  unfold nested at H
  split at H
  · exact ⟨_, by assumption, H⟩
  · exact (fail_run H).elim
theorem snapC_run (hf : FocOk rt) {c : PI.C} {K : PI.C → List Nat → RM} (H : (snapC c K).run call rt = some (v, u, l)) : ∃ c' ks l', SnapC rt c c' ks ∧ (K c' ks).run call rt = some (v, u, l') := by
  unfold snapC at H
  split at H
  · exact ⟨_, _, l, .sc rfl, H⟩
  · exact ⟨_, _, l, .sc rfl, H⟩
  · exact ⟨_, _, l, .sc rfl, H⟩
  · exact ⟨_, _, l, .sc rfl, H⟩
  · exact ⟨_, _, l, .nl, H⟩
  · exact ⟨_, _, l, .rsl, H⟩
  · exact ⟨_, _, l, .rptr, H⟩
  · obtain ⟨rows, l1, hr, H⟩ := rowsOf_run H
    obtain ⟨hq, H⟩ := chk_run H
    exact ⟨_, _, l1, .ref hr (of_decide_eq_true hq), H⟩
  · obtain ⟨rows, l1, hr, H⟩ := rowsOf_run H
    obtain ⟨hq, H⟩ := chk_run H
    simp only [Bool.and_eq_true, decide_eq_true_eq] at hq
    exact ⟨_, _, l1, .view hr hq.1 hq.2, H⟩
  · obtain ⟨r, l1, hr, H⟩ := rd_run H
    split at H
    · obtain ⟨hq, H⟩ := chk_run H
      have hq := of_decide_eq_true hq
      obtain ⟨el, base, he, _, _, H⟩ := elAt_run H (hf _ _ _ _ _ hr)
      obtain ⟨rs, hrs, H⟩ := nested_run H
      obtain ⟨hl, H⟩ := chk_run H
      exact ⟨_, _, l1, .nref (hq ▸ hr) he hrs (of_decide_eq_true hl), H⟩
    · exact (fail_run H).elim
  · exact (fail_run H).elim
theorem snapCs_run (hf : FocOk rt) : ∀ {cs : List PI.C} {K : List PI.C → List Nat → RM} {l : List Nat}, (snapCs cs K).run call rt = some (v, u, l) → ∃ cs' ks l', SnapCs rt cs cs' ks ∧ (K cs' ks).run call rt = some (v, u, l')
  | [], K, l, H => ⟨[], [], l, .nil, H⟩
  | c :: cs, K, l, H => by
    simp only [snapCs] at H
    obtain ⟨c', ks, l1, h1, H⟩ := snapC_run hf H
    obtain ⟨cs', ks', l2, h2, H⟩ := snapCs_run hf H
    exact ⟨_, _, l2, .cons h1 h2, H⟩
theorem snapV_run (hf : FocOk rt) {x : V} {K : V → List Nat → RM} (H : (snapV x K).run call rt = some (v, u, l)) : ∃ x' ks l', SnapV rt x x' ks ∧ (K x' ks).run call rt = some (v, u, l') := by
  unfold snapV at H
  split at H
  · obtain ⟨c', ks, l1, h1, H⟩ := snapC_run hf H
    exact ⟨_, _, l1, .one h1, H⟩
  · obtain ⟨c', ks, l1, h1, H⟩ := snapCs_run hf H
    exact ⟨_, _, l1, .agg h1, H⟩
  · exact (fail_run H).elim
theorem takeC_run (hf : FocOk rt) {c : PI.C} {K : PI.C → List Take → RM} (H : (takeC c K).run call rt = some (v, u, l)) : ∃ c' ts l', TakeC rt c c' ts ∧ (K c' ts).run call rt = some (v, u, l') := by
  unfold takeC at H
  split at H
  · exact ⟨_, _, l, .sc rfl, H⟩
  · exact ⟨_, _, l, .sc rfl, H⟩
  · obtain ⟨r, l1, hr, H⟩ := rd_run H
    split at H
    · obtain ⟨hq, H⟩ := chk_run H
      exact ⟨_, _, l1, .ref hr (of_decide_eq_true hq), H⟩
    · exact (fail_run H).elim
  · obtain ⟨r, l1, hr, H⟩ := rd_run H
    split at H
    · obtain ⟨hq, H⟩ := chk_run H
      have hq := of_decide_eq_true hq
      obtain ⟨el, base, he, hb, hbl, H⟩ := elAt_run H (hf _ _ _ _ _ hr)
      obtain ⟨rs, hrs, H⟩ := nested_run H
      obtain ⟨hl, H⟩ := chk_run H
      exact ⟨_, _, l1, .nref (hq ▸ hr) he hb hbl hrs (of_decide_eq_true hl), H⟩
    · exact (fail_run H).elim
  · exact (fail_run H).elim
theorem takeCs_run (hf : FocOk rt) : ∀ {cs : List PI.C} {K : List PI.C → List Take → RM} {l : List Nat}, (takeCs cs K).run call rt = some (v, u, l) → ∃ cs' ts l', TakeCs rt cs cs' ts ∧ (K cs' ts).run call rt = some (v, u, l')
  | [], K, l, H => ⟨[], [], l, .nil, H⟩
  | c :: cs, K, l, H => by
    simp only [takeCs] at H
    obtain ⟨c', ks, l1, h1, H⟩ := takeC_run hf H
    obtain ⟨cs', ks', l2, h2, H⟩ := takeCs_run hf H
    exact ⟨_, _, l2, .cons h1 h2, H⟩
theorem takeV_run (hf : FocOk rt) {x : V} {K : V → List Take → RM} (H : (takeV x K).run call rt = some (v, u, l)) : ∃ x' ts l', TakeV rt x x' ts ∧ (K x' ts).run call rt = some (v, u, l') := by
  unfold takeV at H
  split at H
  · obtain ⟨r, l1, hr, H⟩ := rd_run H
    split at H
    · obtain ⟨hq, H2⟩ := chk_run H
      simp only [Bool.and_eq_true, decide_eq_true_eq] at hq
      obtain ⟨rfl, hq⟩ := hq
      exact ⟨_, _, l1, .box hr hq, H2⟩
    · exact (fail_run H).elim
  · obtain ⟨c', ks, l1, h1, H⟩ := takeC_run hf H
    exact ⟨_, _, l1, .one h1, H⟩
  · obtain ⟨c', ks, l1, h1, H⟩ := takeCs_run hf H
    exact ⟨_, _, l1, .agg h1, H⟩
  · exact (fail_run H).elim
theorem hand_run (hf : FocOk rt) : ∀ {fs : List Bool} {vs : List V} {K : List V → List Nat → List Take → RM} {l : List Nat}, (handArgs fs vs K).run call rt = some (v, u, l) → ∃ vs' ks ts l', Hand rt fs vs vs' ks ts ∧ (K vs' ks ts).run call rt = some (v, u, l')
  | fs, [], K, l, H => ⟨[], [], [], l, .nil, by cases fs <;> exact H⟩
  | fs, x :: vs, K, l, H => by
    have snap : fs.headD false = false → (snapV x fun v' ks => handArgs fs.tail vs fun vs' ks' ts => K (v' :: vs') (ks ++ ks') ts).run call rt = some (v, u, l) → ∃ vs' ks ts l', Hand rt fs (x :: vs) vs' ks ts ∧ (K vs' ks ts).run call rt = some (v, u, l') := by
      intro h0 H
      obtain ⟨x', ks, l1, h1, H⟩ := snapV_run hf H
      obtain ⟨vs', ks', ts, l2, h2, H⟩ := hand_run hf H
      exact ⟨_, _, _, l2, .snap h0 h1 h2, H⟩
    cases fs with
    | nil => exact snap rfl H
    | cons b fs =>
      cases b with
      | false => exact snap rfl H
      | true =>
        simp only [handArgs] at H
        obtain ⟨x', ts, l1, h1, H⟩ := takeV_run hf H
        obtain ⟨vs', ks', ts', l2, h2, H⟩ := hand_run hf H
        exact ⟨_, _, _, l2, .take h1 h2, H⟩
end
end Go.Proofs.Ytdgamfanffnhaaa.PI

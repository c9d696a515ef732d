/-
  A Bool check that ties PI's operations to the loaded program's, and what its operands give. No condition.
-/
import Derived.Test.YtdgamfanffnhaaaPkMach
import Derived.Laws.StructEq
set_option linter.unusedVariables false
set_option linter.unusedSimpArgs false
namespace Go.Proofs.Ytdgamfanffnhaaa.PI
open Go
def constOk : C → Value → Bool
  | .int k n, .int k' n' => decide (k = k') && decide (n = n')
  | .bool b, .bool b' => b == b'
  | .str s, .string s' => s.data.toList == s'.data.toList
  | .nil, .slice none 0 0 => true
  | .np, .pointer none => true
  | .fn f, .func (.func g) a b => f == g && (a.toList.isEmpty && b.toList.isEmpty)
  | _, _ => false
def opdOk : Opd → Operand → Bool
  | .t n, .tmp t => n == t
  | .k c, .const v => constOk c v
  | .k (.fn f), .func g => f == g
  | _, _ => false
def constsOk : List C → List Value → Bool
  | [], [] => true
  | c :: cs, v :: vs => constOk c v && constsOk cs vs
  | _, _ => false
def opdsOk : List Opd → List Operand → Bool
  | [], [] => true
  | x :: xs, y :: ys => opdOk x y && opdsOk xs ys
  | _, _ => false
def zeroOk (P : Program) (t : TypeId) (cs : List C) : Bool :=
  match P.info? t with
  | some i => match i.zero with
    | some z => constsOk cs z.cells.toList
    | none => false
  | none => false
def sizeIs (P : Program) (t : TypeId) (n : Nat) : Bool :=
  match P.info? t with
  | some i => i.size == n
  | none => false
def elemOf (P : Program) (t : TypeId) : Option TypeId :=
  match P.underlying t with
  | some (.slice e) => some e
  | _ => none
def fieldsOf (P : Program) (t : TypeId) : Option (List Field) :=
  match P.underlying t with
  | some (.struct fs) => some fs.toList
  | _ => none
def descIs (P : Program) (t : TypeId) (f : TypeDesc → Bool) : Bool :=
  match P.underlying t with
  | some d => f d
  | none => false
def isBoolD : TypeDesc → Bool
  | .bool => true
  | _ => false
def isSliceD : TypeDesc → Bool
  | .slice _ => true
  | _ => false
def isStrD : TypeDesc → Bool
  | .string => true
  | _ => false
def isIntD (k : IntKind) : TypeDesc → Bool
  | .int k' => decide (k = k')
  | _ => false
def partsOk (P : Program) (fs : List Field) : List (Nat × Nat × Opd) → List (Nat × Operand) → Bool
  | [], [] => true
  | (off, n, x) :: ps, (i, y) :: qs => (match fs[i]? with
    | some f => f.offset == off && sizeIs P f.type n
    | none => false) && (opdOk x y && partsOk P fs ps qs)
  | _, _ => false
def elsOk : List (Nat × Opd) → List (Nat × Operand) → Bool
  | [], [] => true
  | (i, x) :: ps, (j, y) :: qs => i == j && (opdOk x y && elsOk ps qs)
  | _, _ => false
def optOk : Option Opd → Option Operand → Bool
  | none, none => true
  | some x, some y => opdOk x y
  | _, _ => false
def flatOk (P : Program) : Nat → List Field → Bool
  | _, [] => true
  | n, f :: fs => (f.name != "_" && f.offset == n) && (descIs P f.type (fun d => match d with
    | .int _ => true
    | _ => false) && flatOk P (n + 1) fs)
def chkOp (P : Program) (o : Op) (p : POp) : Bool :=
  match p with
  | .mov y => match o with
    | .move x => opdOk y x
    | .assign x => opdOk y x
    | _ => false
  | .nilroot => match o with
    | .move (.const v) => constOk .nil v
    | .assign (.const v) => constOk .nil v
    | _ => false
  | .pick c a b => match o with
    | .pick c' a' b' => opdOk c c' && (opdOk a a' && opdOk b b')
    | _ => false
  | .alloc zero => match o with
    | .alloc e => zeroOk P e zero
    | _ => false
  | .box y => match o with
    | .box _ x => opdOk y x
    | _ => false
  | .build zero parts => match o with
    | .build t qs => zeroOk P t zero && (match fieldsOf P t with
      | some fs => fs.all (fun f => (P.info? f.type).isSome) && partsOk P fs parts qs.toList
      | none => false)
    | _ => false
  | .bslice n zero parts => match o with
    | .buildSlice t m qs => m == n && (decide (n * zero.length ≤ 2 ^ 24) && (match elemOf P t with
      | some e => zeroOk P e zero && (sizeIs P e zero.length && elsOk parts qs.toList)
      | none => false))
    | _ => false
  | .load agg sz y => match o with
    | .load t x => opdOk y x && (sizeIs P t sz && descIs P t (fun d => aggOf d == agg))
    | _ => false
  | .store sz y z => match o with
    | .store t x v => opdOk y x && (opdOk z v && sizeIs P t sz)
    | _ => false
  | .nilc y => match o with
    | .nilCheck x => opdOk y x
    | _ => false
  | .bin ty op y z => match o with
    | .binOp op' t x v _ => decide (op = op') && (opdOk y x && (opdOk z v && (match ty with
      | 0 => true
      | 1 => descIs P t isBoolD
      | _ => descIs P t isSliceD)))
    | _ => false
  | .eqa neg n y z => match o with
    | .binOp op' t x v _ => decide (op' = if neg then BinOp.neq else BinOp.eql) && (opdOk y x && (opdOk z v && ((match fieldsOf P t with
      | some fs => flatOk P 0 fs && n == fs.length
      | none => false) && (!P.stoodInHeld t && !P.eqGuardType P.depth t))))
    | _ => false
  | .not y => match o with
    | .unOp op _ x => decide (op = .not) && opdOk y x
    | _ => false
  | .ngt y => match o with
    | .unOp op _ x => decide (op = .neg) && opdOk y x
    | _ => false
  | .conv k y => match o with
    | .convert s d x => opdOk y x && ((P.underlying s).isSome && descIs P d (isIntD k))
    | _ => false
  | .mk zero lim y => match o with
    | .makeSlice t l c => opdOk y l && (opdOk y c && (match elemOf P t with
      | some e => zeroOk P e zero && (sizeIs P e zero.length && (match P.info? e with
        | some i => decide (lim * i.bytes ≤ 2 ^ 47) && decide (lim ≤ 2 ^ 47)
        | none => false))
      | none => false))
    | _ => false
  | .slice str sz y lo hi => match o with
    | .slice t x lo' hi' none => opdOk y x && (optOk lo lo' && (optOk hi hi' && (if str then descIs P t isStrD else (match elemOf P t with
      | some e => sizeIs P e sz
      | none => false))))
    | _ => false
  | .fld off y => match o with
    | .fieldAddr s x f => opdOk y x && (match fieldsOf P s with
      | some fs => match fs[f]? with
        | some fld => fld.offset == off && (match P.info? fld.type with
          | some i => i.size != 0
          | none => false)
        | none => false
      | none => false)
    | _ => false
  | .idx sz y z => match o with
    | .indexAddr t x ix => opdOk y x && (opdOk z ix && (match elemOf P t with
      | some e => sizeIs P e sz
      | none => false))
    | _ => false
  | .ext y i => match o with
    | .extract x j => opdOk y x && i == j
    | _ => false
  | .len str y => match o with
    | .call ⟨.builtin b, xs, ts⟩ => decide (b = .len) && (opdsOk [y] xs.toList && (match ts.toList with
      | t :: _ => descIs P t (if str then isStrD else isSliceD)
      | [] => false))
    | _ => false
  | .mn ys => match o with
    | .call ⟨.builtin b, xs, _⟩ => decide (b = .min) && opdsOk ys xs.toList
    | _ => false
  | .mx ys => match o with
    | .call ⟨.builtin b, xs, _⟩ => decide (b = .max) && opdsOk ys xs.toList
    | _ => false
  | .app sz lim s y => match o with
    | .call ⟨.builtin b, xs, ts⟩ => decide (b = .append) && (opdsOk [s, y] xs.toList && (match ts.toList with
      | t :: t2 :: _ => t2 == t && (match elemOf P t with
        | some e => match P.info? e with
          | some i => i.size == sz && (decide (lim * i.bytes ≤ 2 ^ 47) && (decide (lim ≤ 2 ^ 47) && (match i.zero with
            | some z => z.cells.size == sz
            | none => false)))
          | none => false
        | none => false)
      | _ => false))
    | _ => false
  | .call f ys => match o with
    | .call ⟨.value (.func g), xs, _⟩ => f == g && opdsOk ys xs.toList
    | _ => false
  | .callv y ys => match o with
    | .call ⟨.value x, xs, _⟩ => opdOk y x && opdsOk ys xs.toList
    | _ => false
section
variable {h : Hp} {R : Nat → Prop} {rt : Rt} {γ : Gm}
theorem data_ext {s t : ByteArray} (e : s.data.toList = t.data.toList) : s = t := by
  cases s; cases t; simp only at e; congr; exact Array.ext' e
theorem constOk_sc {c : C} {v : Value} (H : constOk c v = true) : sc c v := by
  unfold constOk at H
  split at H <;> simp_all [sc]
  exact (data_ext (by rw [H])).symm
theorem constOk_ro {c : C} {v : Value} (H : constOk c v = true) : Ro h R [c] [v] := .sc (constOk_sc H) .nil
theorem constOk_leaf {c : C} {v : Value} (H : constOk c v = true) : Leaf h R rt γ c v := by
  have := constOk_ro (h := h) (R := R) H
  cases c <;> first | exact this | (simp [constOk] at H)
theorem constsOk_pw {cs : List C} {vs : List Value} (H : constsOk cs vs = true) : Pw (fun c v => constOk c v = true) cs vs := by
  induction cs generalizing vs with
  | nil => cases vs with
    | nil => exact .nil
    | cons => simp [constsOk] at H
  | cons c cs ih => cases vs with
    | nil => simp [constsOk] at H
    | cons v vs => simp only [constsOk, Bool.and_eq_true] at H; exact .cons H.1 (ih H.2)
theorem opd_eval {env : List (Nat × V)} {a : Act} (E : EnvR h R rt γ env a.tmps) {y : Opd} {x : Operand} (H : opdOk y x = true) {v : V} (hv : y.val env = some v) : VR h R rt γ v (a.eval x) := by
  unfold opdOk at H
  split at H
  · rename_i n t
    simp only [beq_iff_eq] at H; subst H
    obtain ⟨u, hu, hr⟩ := E n v hv
    simp only [Act.eval, Array.getD_eq_getD_getElem?, hu, Option.getD_some]
    exact hr
  · rename_i c w
    simp only [Opd.val, Option.some.injEq] at hv; subst hv
    exact constOk_leaf H
  · rename_i f g
    simp only [Opd.val, Option.some.injEq] at hv; subst hv
    simp only [beq_iff_eq] at H; subst H
    exact Ro.sc rfl .nil
  · cases H
theorem Ro.sc_inv {c : C} {v : Value} (H : Ro h R [c] [v]) (hc : ∀ rows, ¬ isRow c rows) (hp : ∀ el off, c ≠ .rptr el off) : PI.sc c v := by
  cases H with
  | sc a _ => exact a
  | e a _ => exact absurd a (hc _)
  | row a _ _ _ _ _ _ _ _ => exact absurd a (hc _)
  | ptr => exact absurd rfl (hp _ _)
theorem VR_int {k : IntKind} {n : Int} {x : Value} (H : VR h R rt γ (.one (.int k n)) x) : x = .int k n := Ro.sc_inv (c := .int k n) H (by simp [isRow]) (by simp)
theorem VR_bool {b : Bool} {x : Value} (H : VR h R rt γ (.one (.bool b)) x) : x = .bool b := Ro.sc_inv (c := .bool b) H (by simp [isRow]) (by simp)
theorem VR_str {s : ByteArray} {x : Value} (H : VR h R rt γ (.one (.str s)) x) : x = .string s := Ro.sc_inv (c := .str s) H (by simp [isRow]) (by simp)
theorem VR_nil {x : Value} (H : VR h R rt γ (.one .nil) x) : x = .slice none 0 0 := Ro.sc_inv (c := .nil) H (by simp [isRow]) (by simp)
theorem VR_fn {f : Nat} {x : Value} (H : VR h R rt γ (.one (.fn f)) x) : x = .func (.func f) #[] #[] := Ro.sc_inv (c := .fn f) H (by simp [isRow]) (by simp)
theorem VR_mkInt {k : IntKind} {n : Int} : VR h R rt γ (.one (.int k n)) (.int k n) := Ro.sc (c := .int k n) rfl .nil
theorem VR_mkBool {b : Bool} : VR h R rt γ (.one (.bool b)) (.bool b) := Ro.sc (c := .bool b) rfl .nil
theorem VR_mkStr {s : ByteArray} : VR h R rt γ (.one (.str s)) (.string s) := Ro.sc (c := .str s) rfl .nil
theorem Ro.one {c : C} {v : Value} (H : Ro h R [c] [v]) : v.oneCell' = true := by
  cases H with
  | sc a _ => cases c <;> simp only [PI.sc] at a <;> first | (subst a; rfl) | exact a.elim | (obtain ⟨_, _, rfl, _⟩ := a; rfl)
  | e => rfl
  | row => rfl
  | ptr => rfl
theorem Leaf.one {c : C} {v : Value} (H : Leaf h R rt γ c v) : v.oneCell' = true := by
  cases c <;> simp only [Leaf] at H <;> first | exact Ro.one H | (obtain ⟨_, _, rfl, _⟩ := H; rfl) | (obtain ⟨_, rfl, _⟩ := H; rfl)
theorem cells_one {v : Value} (h : v.oneCell' = true) : v.cells = #[v] := by
  cases v <;> simp_all [Value.cells, Value.oneCell']
end
section
variable {call : Nat → List V → Option Res} {r : Rt} {res : V × Ups × List Nat}
theorem opd_run {e : List (Nat × V)} {x : Opd} {K : V → RM} (H : (opd e x K).run call r = some res) : ∃ v, x.val e = some v ∧ (K v).run call r = some res := by
  unfold opd at H
  split at H
  · rename_i v hv; exact ⟨v, hv, H⟩
  · simp [RM.run] at H
theorem opds_run {e : List (Nat × V)} : ∀ {xs : List Opd} {K : List V → RM}, (opds e xs K).run call r = some res → ∃ vs, Pw (fun (x : Opd) v => x.val e = some v) xs vs ∧ (K vs).run call r = some res
  | [], _, H => ⟨[], .nil, H⟩
  | x :: xs, K, H => by
    simp only [opds] at H
    split at H
    · rename_i v hv
      obtain ⟨vs, h1, h2⟩ := opds_run H
      exact ⟨v :: vs, .cons hv h1, h2⟩
    · simp [RM.run] at H
theorem optRM_run {α : Type} {x : Option α} {K : α → RM} (H : (optRM x K).run call r = some res) : ∃ v, x = some v ∧ (K v).run call r = some res := by
  unfold optRM at H
  split at H
  · exact ⟨_, rfl, H⟩
  · simp [RM.run] at H
theorem chk_run {b : Bool} {K : RM} (H : (RM.chk b K).run call r = some res) : b = true ∧ K.run call r = some res := by
  cases b
  · simp [RM.run] at H
  · exact ⟨rfl, H⟩
theorem ret_run {v : V} {u : Ups} (H : (RM.ret v u).run call r = some res) : res = (v, u, []) := by
  simp only [RM.run, Option.some.injEq] at H; exact H.symm
theorem rd_run {key : Nat} {k : Root → RM} {v : V} {u : Ups} {l : List Nat} (H : (RM.rd key k).run call r = some (v, u, l)) : ∃ x l', r key = some x ∧ (k x).run call r = some (v, u, l') := by
  simp only [RM.run] at H
  split at H
  · rename_i x hx
    split at H
    · rename_i v' u' l' h'
      simp only [Option.some.injEq, Prod.mk.injEq] at H
      obtain ⟨rfl, rfl, _⟩ := H
      exact ⟨x, l', hx, h'⟩
    · cases H
  · cases H
theorem ab_run {key : Nat} {k : RM} {v : V} {u : Ups} {l : List Nat} (H : (RM.ab key k).run call r = some (v, u, l)) : r key = none ∧ ∃ l', k.run call r = some (v, u, l') := by
  simp only [RM.run] at H
  split at H
  · rename_i hx
    split at H
    · rename_i v' u' l' h'
      simp only [Option.some.injEq, Prod.mk.injEq] at H
      obtain ⟨rfl, rfl, _⟩ := H
      exact ⟨hx, l', h'⟩
    · cases H
  · cases H
theorem br_run {b : Bool} {t f : RM} (H : (RM.br b t f).run call r = some res) : (b = true ∧ t.run call r = some res) ∨ (b = false ∧ f.run call r = some res) := by
  cases b
  · exact .inr ⟨rfl, H⟩
  · exact .inl ⟨rfl, H⟩
theorem el_run {rows : List (List C)} {i : Nat} {k : List C → RM} (H : (RM.el rows i k).run call r = some res) : ∃ x, rows[i]? = some x ∧ (k x).run call r = some res := by
  simp only [RM.run] at H
  split at H
  · exact ⟨_, by assumption, H⟩
  · cases H
theorem call_run {f : Nat} {args : List V} {k : Res → RM} (H : (RM.call f args k).run call r = some res) : ∃ x, call f args = some x ∧ (k x).run call r = some res := by
  simp only [RM.run] at H
  split at H
  · exact ⟨_, by assumption, H⟩
  · cases H
theorem fail_run (H : RM.fail.run call r = some res) : False := by simp [RM.run] at H
theorem absent_run : ∀ {u : Ups} {K : RM} {v : V} {u' : Ups} {l : List Nat}, (absent u K).run call r = some (v, u', l) → (∀ x ∈ u, r x.1 = none) ∧ ∃ l', K.run call r = some (v, u', l')
  | [], K, v, u', l, H => ⟨by simp, l, H⟩
  | (k, x) :: u, K, v, u', l, H => by
    simp only [absent] at H
    obtain ⟨h1, l1, h2⟩ := ab_run H
    obtain ⟨h3, l3, h4⟩ := absent_run h2
    exact ⟨by simpa using ⟨h1, fun a b hab => h3 (a, b) hab⟩, l3, h4⟩
end
end Go.Proofs.Ytdgamfanffnhaaa.PI

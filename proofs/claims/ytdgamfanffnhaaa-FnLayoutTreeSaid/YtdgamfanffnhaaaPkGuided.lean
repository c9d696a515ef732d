/-
  PI, guided: a run that is told beforehand which way each test goes, what is read of a row, what each call and each loop gives; it lists what it was told. If all of that holds, the run is PI's cfg.
-/
import Derived.Test.YtdgamfanffnhaaaPkCore
set_option linter.unusedVariables false
set_option linter.unusedSimpArgs false
namespace Go.Proofs.Ytdgamfanffnhaaa.PI
open Go
structure Gd where
  bs : List Bool
  els : List (List C)
  cs : List Res
  ls : List (PExit × St)
  cond : Bool
  ge : List (List (List C) × Nat × List C)
  gc : List (Nat × List V × Res)
  gl : List ((List Nat × List Nat × List Nat × List Nat × PCode) × St × PExit × St)
def Gd.on (bs : List Bool) (els : List (List C)) (cs : List Res) (ls : List (PExit × St)) : Gd := ⟨bs, els, cs, ls, true, [], [], []⟩
def allEl : List (List (List C) × Nat × List C) → Prop
  | [] => True
  | x :: r => x.1[x.2.1]? = some x.2.2 ∧ allEl r
def allCall (call : Nat → List V → Option Res) : List (Nat × List V × Res) → Prop
  | [] => True
  | x :: r => call x.1 x.2.1 = some x.2.2 ∧ allCall call r
abbrev Lp := (St → Option (PExit × St)) → St → Option (PExit × St)
def allLoop (call : Nat → List V → Option Res) (cfg : Cfg) (lp : Lp) : List ((List Nat × List Nat × List Nat × List Nat × PCode) × St × PExit × St) → Prop
  | [] => True
  | x :: r => lp (round call cfg lp x.1.1 x.1.2.1 x.1.2.2.1 x.1.2.2.2.1 x.1.2.2.2.2) x.2.1 = some x.2.2 ∧ allLoop call cfg lp r
def Gd.holds (call : Nat → List V → Option Res) (cfg : Cfg) (lp : Lp) (g : Gd) : Prop :=
  g.cond = true ∧ allEl g.ge ∧ allCall call g.gc ∧ allLoop call cfg lp g.gl
theorem and_t {a b : Bool} (ha : a = true) (hb : b = true) : (a && b) = true := by rw [ha, hb]; rfl
def RM.runG (r : Nat → Option Root) : RM → Gd → Option ((V × Ups × List Nat) × Gd)
  | .ret v u, g => some ((v, u, []), g)
  | .fail, _ => none
  | .rd key k, g => match r key with
    | some x => match (k x).runG r g with
      | some ((v, u, l), g') => some ((v, u, key :: l), g')
      | none => none
    | none => none
  | .ab key k, g => match r key with
    | none => match k.runG r g with
      | some ((v, u, l), g') => some ((v, u, key :: l), g')
      | none => none
    | some _ => none
  | .chk b k, g => k.runG r { g with cond := b && g.cond }
  | .br b t f, g => match g.bs with
    | true :: bs => t.runG r { g with bs := bs, cond := b && g.cond }
    | false :: bs => f.runG r { g with bs := bs, cond := !b && g.cond }
    | [] => none
  | .el rows i k, g => match g.els with
    | x :: xs => (k x).runG r { g with els := xs, ge := (rows, i, x) :: g.ge }
    | [] => none
  | .call f args k, g => match g.cs with
    | x :: xs => (k x).runG r { g with cs := xs, gc := (f, args, x) :: g.gc }
    | [] => none
section
variable (cfg : Cfg)
def stepOnG (o : PO) (st : St) (g : Gd) : Option ((St × Touch) × Gd) :=
  match (o.rm cfg st.env).runG (get st.roots) g with
  | some ((v, u, l), g') => if distinct (u.map (·.1)) then some ((⟨setD st.env o.dst v, applyUps st.roots u⟩, (l, u.map (·.1))), g') else none
  | none => none
def pstepG (o : PO) (st : St) (g : Gd) : Option ((St × Touch) × Gd) :=
  match o.guarded st.env with
  | .free => stepOnG cfg o st g
  | .ask b => match g.bs with
    | true :: bs => stepOnG cfg o st { g with bs := bs, cond := b && g.cond }
    | false :: bs => some (stepOff o st, { g with bs := bs, cond := !b && g.cond })
    | [] => none
  | .no => some (stepOff o st, g)
  | .bad => none
def popsG : List PO → St → Gd → Option (St × Gd)
  | [], st, g => some (st, g)
  | o :: os, st, g => match pstepG cfg o st g with
    | some ((st', _), g') => popsG os st' g'
    | none => none
def pdrawG : List (PO × List Nat) → Nat → List (Nat × Touch) → St → Gd → Option (St × Gd)
  | [], _, _, st, g => some (st, g)
  | (o, pre) :: os, i, seen, st, g => match pstepG cfg o st g with
    | some ((st', t), g') => if apart pre t seen then pdrawG os (i + 1) ((i, t) :: seen) st' g' else none
    | none => none
def pexecG : PCode → St → Gd → Option ((PExit × St) × Gd)
  | .skip, st, g => some ((.normal, st), g)
  | .ret, st, g => some ((.ret, st), g)
  | .exit n, st, g => some ((.exit n, st), g)
  | .region ops, st, g => match popsG cfg ops st g with
    | some (st', g') => some ((.normal, st'), g')
    | none => none
  | .dregion ops, st, g => match pdrawG cfg ops 0 [] st g with
    | some (st', g') => some ((.normal, st'), g')
    | none => none
  | .seq a b, st, g => match pexecG a st g with
    | some ((.normal, st'), g') => pexecG b st' g'
    | some ((.ret, st'), g') => some ((.ret, st'), g')
    | some ((.exit n, st'), g') => some ((.exit n, st'), g')
    | none => none
  | .cond c a b, st, g => match condOf c st.env with
    | some t => match g.bs with
      | true :: bs => pexecG a st { g with bs := bs, cond := t && g.cond }
      | false :: bs => pexecG b st { g with bs := bs, cond := !t && g.cond }
      | [] => none
    | none => none
  | .block n c, st, g => match pexecG c st g with
    | some ((.exit m, st'), g') => if m = n then some ((.normal, st'), g') else some ((.exit m, st'), g')
    | some ((.normal, st'), g') => some ((.normal, st'), g')
    | some ((.ret, st'), g') => some ((.ret, st'), g')
    | none => none
  | .loop slots keys slots2 keys2 c, st, g => match prune slots keys st with
    | some st' => match g.ls with
      | (x, st'') :: ls => some ((x, st''), { g with ls := ls, gl := ((slots, keys, slots2, keys2, c), st', x, st'') :: g.gl })
      | [] => none
    | none => none
def roundG (slots keys slots2 keys2 : List Nat) (c : PCode) (st : St) (g : Gd) : Option ((PExit × St) × Gd) :=
  match pexecG cfg c st g with
  | some (x, g') => match roundEnd slots keys slots2 keys2 (some x) with
    | some y => some (y, g')
    | none => none
  | none => none
def pfunG (funcs : Nat → Option PFunc) (f : Nat) (args : List V) (g : Gd) : Option (Res × Gd) :=
  match funcs f with
  | none => none
  | some pf =>
    if args.length = pf.np ∧ cfg.fz = pf.fz then
      match pexecG cfg pf.body ⟨(enter pf.own 0 args).1, (enter pf.own 0 args).2.1⟩ g with
      | some ((e, st), g') => if isEnd e then match leave pf (enter pf.own 0 args).2.2 st with
        | some (x, b) => some (x, { g' with cond := b && g'.cond })
        | none => none
        else none
      | none => none
    else none
end
section
variable {call : Nat → List V → Option Res} {cfg : Cfg} {lp : Lp} {g g' : Gd}
theorem runG_sound {r : Nat → Option Root} (m : RM) : ∀ {g g' : Gd} {x : V × Ups × List Nat}, m.runG r g = some (x, g') → g'.holds call cfg lp → m.run call r = some x ∧ g.holds call cfg lp := by
  induction m with
  | ret v u => intro g g' x h hh; simp only [RM.runG, Option.some.injEq, Prod.mk.injEq] at h; obtain ⟨rfl, rfl⟩ := h; exact ⟨rfl, hh⟩
  | fail => intro g g' x h; simp [RM.runG] at h
  | rd key k ih =>
    intro g g' x h hh
    simp only [RM.runG] at h
    split at h
    · rename_i y hy
      split at h
      · rename_i v u l g1 h1
        simp only [Option.some.injEq, Prod.mk.injEq] at h
        obtain ⟨rfl, rfl⟩ := h
        obtain ⟨h2, h3⟩ := ih y h1 hh
        exact ⟨by simp only [RM.run, hy, h2], h3⟩
      · cases h
    · cases h
  | ab key k ih =>
    intro g g' x h hh
    simp only [RM.runG] at h
    split at h
    · rename_i hy
      split at h
      · rename_i v u l g1 h1
        simp only [Option.some.injEq, Prod.mk.injEq] at h
        obtain ⟨rfl, rfl⟩ := h
        obtain ⟨h2, h3⟩ := ih h1 hh
        exact ⟨by simp only [RM.run, hy, h2], h3⟩
      · cases h
    · cases h
  | chk b k ih =>
    intro g g' x h hh
    simp only [RM.runG] at h
    obtain ⟨h2, h3, h4⟩ := ih h hh
    simp only [Bool.and_eq_true] at h3
    exact ⟨by simp only [RM.run, h3.1, h2], h3.2, h4⟩
  | br b t f iht ihf =>
    intro g g' x h hh
    simp only [RM.runG] at h
    split at h
    · obtain ⟨h2, h3, h4⟩ := iht h hh
      simp only [Bool.and_eq_true] at h3
      exact ⟨by simp only [RM.run, h3.1, h2], h3.2, h4⟩
    · obtain ⟨h2, h3, h4⟩ := ihf h hh
      simp only [Bool.and_eq_true, Bool.not_eq_true'] at h3
      exact ⟨by simp only [RM.run, h3.1, h2], h3.2, h4⟩
    · cases h
  | el rows i k ih =>
    intro g g' x h hh
    simp only [RM.runG] at h
    split at h
    · rename_i y ys hy
      obtain ⟨h2, h3, ⟨h4, h5⟩, h6⟩ := ih y h hh
      exact ⟨by simp only [RM.run, h4, h2], h3, h5, h6⟩
    · cases h
  | call f args k ih =>
    intro g g' x h hh
    simp only [RM.runG] at h
    split at h
    · rename_i y ys hy
      obtain ⟨h2, h3, h4, ⟨h5, h6⟩, h7⟩ := ih y h hh
      exact ⟨by simp only [RM.run, h5, h2], h3, h4, h6, h7⟩
    · cases h
theorem stepOnG_sound {o : PO} {st : St} {x : St × Touch} (h : stepOnG cfg o st g = some (x, g')) (hh : g'.holds call cfg lp) : stepOn call cfg o st = some x ∧ g.holds call cfg lp := by
  unfold stepOnG at h
  split at h
  · rename_i v u l g1 h1
    split at h
    · rename_i hd
      simp only [Option.some.injEq, Prod.mk.injEq] at h
      obtain ⟨rfl, rfl⟩ := h
      obtain ⟨h2, h3⟩ := runG_sound (call := call) (cfg := cfg) (lp := lp) _ h1 hh
      exact ⟨by simp only [stepOn, h2, hd, if_true], h3⟩
    · cases h
  · cases h
theorem pstepG_sound {o : PO} {st : St} {x : St × Touch} (h : pstepG cfg o st g = some (x, g')) (hh : g'.holds call cfg lp) : pstep call cfg o st = some x ∧ g.holds call cfg lp := by
  unfold pstepG at h
  unfold pstep
  split at h
  · rename_i hg; rw [hg]; exact stepOnG_sound h hh
  · rename_i b hg
    split at h
    · obtain ⟨h2, h3, h4⟩ := stepOnG_sound h hh
      simp only [Bool.and_eq_true] at h3
      rw [hg, h3.1]
      exact ⟨h2, h3.2, h4⟩
    · simp only [Option.some.injEq, Prod.mk.injEq] at h
      obtain ⟨rfl, rfl⟩ := h
      obtain ⟨h3, h4⟩ := hh
      simp only [Bool.and_eq_true, Bool.not_eq_true'] at h3
      rw [hg, h3.1]
      exact ⟨rfl, h3.2, h4⟩
    · cases h
  · rename_i hg
    rw [hg]
    simp only [Option.some.injEq, Prod.mk.injEq] at h
    obtain ⟨rfl, rfl⟩ := h
    exact ⟨rfl, hh⟩
  · cases h
theorem popsG_sound (ops : List PO) : ∀ {st : St} {g g' : Gd} {x : St}, popsG cfg ops st g = some (x, g') → g'.holds call cfg lp → pops call cfg ops st = some x ∧ g.holds call cfg lp := by
  induction ops with
  | nil => intro st g g' x h hh; simp only [popsG, Option.some.injEq, Prod.mk.injEq] at h; obtain ⟨rfl, rfl⟩ := h; exact ⟨rfl, hh⟩
  | cons o os ih =>
    intro st g g' x h hh
    simp only [popsG] at h
    split at h
    · rename_i st1 t g1 h1
      obtain ⟨h2, h3⟩ := ih h hh
      obtain ⟨h4, h5⟩ := pstepG_sound h1 h3
      exact ⟨by simp only [pops, h4, h2], h5⟩
    · cases h
theorem pdrawG_sound (ops : List (PO × List Nat)) : ∀ {i : Nat} {seen : List (Nat × Touch)} {st : St} {g g' : Gd} {x : St}, pdrawG cfg ops i seen st g = some (x, g') → g'.holds call cfg lp → pdraw call cfg ops i seen st = some x ∧ g.holds call cfg lp := by
  induction ops with
  | nil => intro i seen st g g' x h hh; simp only [pdrawG, Option.some.injEq, Prod.mk.injEq] at h; obtain ⟨rfl, rfl⟩ := h; exact ⟨rfl, hh⟩
  | cons o os ih =>
    intro i seen st g g' x h hh
    obtain ⟨o, pre⟩ := o
    simp only [pdrawG] at h
    split at h
    · rename_i st1 t g1 h1
      split at h
      · rename_i hap
        obtain ⟨h2, h3⟩ := ih h hh
        obtain ⟨h4, h5⟩ := pstepG_sound h1 h3
        exact ⟨by simp only [pdraw, h4, hap, if_true, h2], h5⟩
      · cases h
    · cases h
theorem pexecG_sound (c : PCode) : ∀ {st : St} {g g' : Gd} {x : PExit × St}, pexecG cfg c st g = some (x, g') → g'.holds call cfg lp → pexec call cfg lp c st = some x ∧ g.holds call cfg lp := by
  induction c with
  | skip => intro st g g' x h hh; simp only [pexecG, Option.some.injEq, Prod.mk.injEq] at h; obtain ⟨rfl, rfl⟩ := h; exact ⟨rfl, hh⟩
  | ret => intro st g g' x h hh; simp only [pexecG, Option.some.injEq, Prod.mk.injEq] at h; obtain ⟨rfl, rfl⟩ := h; exact ⟨rfl, hh⟩
  | exit n => intro st g g' x h hh; simp only [pexecG, Option.some.injEq, Prod.mk.injEq] at h; obtain ⟨rfl, rfl⟩ := h; exact ⟨rfl, hh⟩
  | region ops =>
    intro st g g' x h hh
    simp only [pexecG] at h
    split at h
    · rename_i st1 g1 h1
      simp only [Option.some.injEq, Prod.mk.injEq] at h
      obtain ⟨rfl, rfl⟩ := h
      obtain ⟨h2, h3⟩ := popsG_sound ops h1 hh
      exact ⟨by simp only [pexec, h2], h3⟩
    · cases h
  | dregion ops =>
    intro st g g' x h hh
    simp only [pexecG] at h
    split at h
    · rename_i st1 g1 h1
      simp only [Option.some.injEq, Prod.mk.injEq] at h
      obtain ⟨rfl, rfl⟩ := h
      obtain ⟨h2, h3⟩ := pdrawG_sound ops h1 hh
      exact ⟨by simp only [pexec, h2], h3⟩
    · cases h
  | seq a b iha ihb =>
    intro st g g' x h hh
    simp only [pexecG] at h
    split at h
    · rename_i st1 g1 h1
      obtain ⟨h2, h3⟩ := ihb h hh
      obtain ⟨h4, h5⟩ := iha h1 h3
      exact ⟨by simp only [pexec, h4, h2], h5⟩
    · rename_i st1 g1 h1
      simp only [Option.some.injEq, Prod.mk.injEq] at h
      obtain ⟨rfl, rfl⟩ := h
      obtain ⟨h4, h5⟩ := iha h1 hh
      exact ⟨by simp only [pexec, h4], h5⟩
    · rename_i n st1 g1 h1
      simp only [Option.some.injEq, Prod.mk.injEq] at h
      obtain ⟨rfl, rfl⟩ := h
      obtain ⟨h4, h5⟩ := iha h1 hh
      exact ⟨by simp only [pexec, h4], h5⟩
    · cases h
  | cond c a b iha ihb =>
    intro st g g' x h hh
    simp only [pexecG] at h
    split at h
    · rename_i t ht
      split at h
      · obtain ⟨h2, h3, h4⟩ := iha h hh
        simp only [Bool.and_eq_true] at h3
        exact ⟨by simp only [pexec, ht, h3.1, h2], h3.2, h4⟩
      · obtain ⟨h2, h3, h4⟩ := ihb h hh
        simp only [Bool.and_eq_true, Bool.not_eq_true'] at h3
        exact ⟨by simp only [pexec, ht, h3.1, h2], h3.2, h4⟩
      · cases h
    · cases h
  | block n c ih =>
    intro st g g' x h hh
    simp only [pexecG] at h
    split at h
    · rename_i m st1 g1 h1
      split at h
      · rename_i hm
        simp only [Option.some.injEq, Prod.mk.injEq] at h
        obtain ⟨rfl, rfl⟩ := h
        obtain ⟨h4, h5⟩ := ih h1 hh
        exact ⟨by simp only [pexec, h4, hm, if_true], h5⟩
      · rename_i hm
        simp only [Option.some.injEq, Prod.mk.injEq] at h
        obtain ⟨rfl, rfl⟩ := h
        obtain ⟨h4, h5⟩ := ih h1 hh
        exact ⟨by simp only [pexec, h4, hm, if_false], h5⟩
    · rename_i st1 g1 h1
      simp only [Option.some.injEq, Prod.mk.injEq] at h
      obtain ⟨rfl, rfl⟩ := h
      obtain ⟨h4, h5⟩ := ih h1 hh
      exact ⟨by simp only [pexec, h4], h5⟩
    · rename_i st1 g1 h1
      simp only [Option.some.injEq, Prod.mk.injEq] at h
      obtain ⟨rfl, rfl⟩ := h
      obtain ⟨h4, h5⟩ := ih h1 hh
      exact ⟨by simp only [pexec, h4], h5⟩
    · cases h
  | loop slots keys slots2 keys2 c ih =>
    intro st g g' x h hh
    simp only [pexecG] at h
    split at h
    · rename_i st1 h1
      split at h
      · rename_i e st2 ls hls
        simp only [Option.some.injEq, Prod.mk.injEq] at h
        obtain ⟨rfl, rfl⟩ := h
        obtain ⟨h3, h4, h5, h6, h7⟩ := hh
        refine ⟨?_, h3, h4, h5, h7⟩
        simp only [pexec, h1]
        exact h6
      · cases h
    · cases h
theorem roundG_sound {slots keys slots2 keys2 : List Nat} {c : PCode} {st : St} {x : PExit × St} (h : roundG cfg slots keys slots2 keys2 c st g = some (x, g')) (hh : g'.holds call cfg lp) : round call cfg lp slots keys slots2 keys2 c st = some x := by
  unfold roundG at h
  unfold round
  split at h
  · rename_i y g1 h1
    split at h
    · rename_i z h2
      simp only [Option.some.injEq, Prod.mk.injEq] at h
      obtain ⟨rfl, rfl⟩ := h
      rw [(pexecG_sound c h1 hh).1]
      exact h2
    · cases h
  · cases h
theorem pfunG_sound {funcs : Nat → Option PFunc} {f : Nat} {args : List V} {x : Res} (h : pfunG cfg funcs f args g = some (x, g')) (hh : g'.holds call cfg lp) : pfun funcs cfg.own call lp f args = some x := by
  unfold pfunG at h
  unfold pfun
  split at h
  · cases h
  · rename_i pf hpf
    rw [hpf]
    simp only
    split at h
    · rename_i hl
      rw [if_pos hl.1, ← hl.2]
      split at h
      · rename_i e st g1 h1
        split at h
        · rename_i he
          split at h
          · rename_i y b hb
            simp only [Option.some.injEq, Prod.mk.injEq] at h
            obtain ⟨rfl, rfl⟩ := h
            obtain ⟨h3, h4⟩ := hh
            simp only [Bool.and_eq_true] at h3
            have h5 := (pexecG_sound (call := call) (lp := lp) (cfg := cfg) pf.body h1 ⟨h3.2, h4⟩).1
            simp only [h5, he, if_true, hb, h3.1, chkd]
          · cases h
        · cases h
      · cases h
    · cases h
theorem eN : allEl [] := trivial
theorem eC {rows : List (List C)} {i : Nat} {el : List C} {r : List (List (List C) × Nat × List C)} (h : rows[i]? = some el) (t : allEl r) : allEl ((rows, i, el) :: r) := ⟨h, t⟩
theorem cN : allCall call [] := trivial
theorem cC {f : Nat} {args : List V} {x : Res} {r : List (Nat × List V × Res)} (h : call f args = some x) (t : allCall call r) : allCall call ((f, args, x) :: r) := ⟨h, t⟩
theorem lN : allLoop call cfg lp [] := trivial
theorem lC {slots keys slots2 keys2 : List Nat} {c : PCode} {st : St} {x : PExit × St} {r : List ((List Nat × List Nat × List Nat × List Nat × PCode) × St × PExit × St)} (h : lp (round call cfg lp slots keys slots2 keys2 c) st = some x) (t : allLoop call cfg lp r) : allLoop call cfg lp (((slots, keys, slots2, keys2, c), st, x) :: r) := ⟨h, t⟩
def Gd.of (bs : List Bool) (ge : List (List (List C) × Nat × List C)) (gc : List (Nat × List V × Res)) (gl : List ((List Nat × List Nat × List Nat × List Nat × PCode) × St × PExit × St)) : Gd :=
  .on bs (ge.reverse.map (·.2.2)) (gc.reverse.map (·.2.2)) (gl.reverse.map (·.2.2))
theorem guided_round (bs : List Bool) {cond : Bool} {ge : List (List (List C) × Nat × List C)} {gc : List (Nat × List V × Res)} {gl : List ((List Nat × List Nat × List Nat × List Nat × PCode) × St × PExit × St)} (h1 : cond = true) (h2 : allEl ge) (h3 : allCall call gc) (h4 : allLoop call cfg lp gl) {slots keys slots2 keys2 : List Nat} {c : PCode} {st : St} {x : PExit × St}
    (h : roundG cfg slots keys slots2 keys2 c st (.of bs ge gc gl) = some (x, ⟨[], [], [], [], cond, ge, gc, gl⟩)) : round call cfg lp slots keys slots2 keys2 c st = some x :=
  roundG_sound h ⟨h1, h2, h3, h4⟩
theorem guided_fun (bs : List Bool) {cond : Bool} {ge : List (List (List C) × Nat × List C)} {gc : List (Nat × List V × Res)} {gl : List ((List Nat × List Nat × List Nat × List Nat × PCode) × St × PExit × St)} (h1 : cond = true) (h2 : allEl ge) (h3 : allCall call gc) (h4 : allLoop call cfg lp gl) {funcs : Nat → Option PFunc} {f : Nat} {args : List V} {x : Res}
    (h : pfunG cfg funcs f args (.of bs ge gc gl) = some (x, ⟨[], [], [], [], cond, ge, gc, gl⟩)) : pfun funcs cfg.own call lp f args = some x :=
  pfunG_sound h ⟨h1, h2, h3, h4⟩
abbrev Call := Nat → List V → Option Res
abbrev vI (n : Int) : V := .one (.int .i64 n)
abbrev vB (b : Bool) : V := .one (.bool b)
def w64 (n : Int) : Int := IntKind.i64.wrap n
def mn2 (a b : Int) : Int := if b < a then b else a
def mx2 (a b : Int) : Int := if b > a then b else a
def and64 (x y : Int) : Int := w64 (BitVec.ofInt 64 x &&& BitVec.ofInt 64 y).toNat
def xor64 (x y : Int) : Int := w64 (BitVec.ofInt 64 x ^^^ BitVec.ofInt 64 y).toNat
theorem not_t {a : Bool} (h : a = false) : (!a) = true := by rw [h]; rfl
theorem not_f {a : Bool} (h : a = true) : (!a) = false := by rw [h]; rfl
theorem eq_tt {a : Bool} (h : a = true) : (a == true) = true := by rw [h]; rfl
theorem eq_ff {a : Bool} (h : a = false) : (a == false) = true := by rw [h]; rfl
theorem eq_tf {a : Bool} (h : a = false) : (a == true) = false := by rw [h]; rfl
theorem eq_ft {a : Bool} (h : a = true) : (a == false) = false := by rw [h]; rfl
theorem dr (n : Nat) : decide (n = n) = true := decide_eq_true rfl
end
end Go.Proofs.Ytdgamfanffnhaaa.PI

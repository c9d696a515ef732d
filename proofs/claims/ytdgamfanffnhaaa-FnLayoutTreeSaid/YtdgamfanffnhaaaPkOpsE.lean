/-
  What PI's stores into elements of rows say of the machine's: what is stored goes along. No condition.
-/
import Derived.Test.YtdgamfanffnhaaaPkOpsD
set_option linter.unusedVariables false
set_option linter.unusedSimpArgs false
namespace Go.Proofs.Ytdgamfanffnhaaa.PI
open Go
inductive Abs (rt : Rt) : List C → List C → Ups → Prop
  | nil : Abs rt [] [] []
  | ref {k len vs rows foc cs cs' u} : rt k = some (.row false vs rows foc) → rows.length = len → Abs rt cs cs' u → Abs rt (.ref k len :: cs) (.sl (eff rows foc) :: cs') ((k, none) :: u)
  | nl {cs cs' u} : Abs rt cs cs' u → Abs rt (.nil :: cs) (.sl [] :: cs') u
  | sc {c cs cs' u} : c.scalar = true → Abs rt cs cs' u → Abs rt (c :: cs) (c :: cs') u
section
variable {P : Program} {X : Ctx} {rt : Rt} {w w' : World} {R : Nat → Prop} {γ γ' : Gm} {env : List (Nat × V)} {a : Act} {op : Oper} {call : Nat → List V → Option Res} {cfg : Cfg} {d : Nat} {v : V} {u : Ups} {l : List Nat}
theorem absorb_run : ∀ {cs : List PI.C} {K : List PI.C → Ups → RM} {v : V} {u : Ups} {l : List Nat}, (absorb cs K).run call rt = some (v, u, l) → ∃ cs' u' l', Abs rt cs cs' u' ∧ (K cs' u').run call rt = some (v, u, l')
  | [], K, v, u, l, H => ⟨[], [], l, .nil, H⟩
  | c :: cs, K, v, u, l, H => by
    cases c <;> simp only [absorb] at H
    case ref k len =>
      obtain ⟨r, l1, hr, H⟩ := rd_run H
      split at H
      · obtain ⟨hq, H⟩ := chk_run H
        obtain ⟨cs', u', l', h1, h2⟩ := absorb_run H
        obtain ⟨_, h2⟩ := chk_run h2
        exact ⟨_, _, l', .ref hr (of_decide_eq_true hq) h1, h2⟩
      · exact (fail_run H).elim
    case nil => obtain ⟨cs', u', l', h1, h2⟩ := absorb_run H; exact ⟨_, _, l', .nl h1, h2⟩
    case int => obtain ⟨cs', u', l', h1, h2⟩ := absorb_run H; exact ⟨_, _, l', .sc rfl h1, h2⟩
    case bool => obtain ⟨cs', u', l', h1, h2⟩ := absorb_run H; exact ⟨_, _, l', .sc rfl h1, h2⟩
    case str => obtain ⟨cs', u', l', h1, h2⟩ := absorb_run H; exact ⟨_, _, l', .sc rfl h1, h2⟩
    all_goals exact (fail_run H).elim
theorem Abs.app {cs cs' ds ds' : List PI.C} {u u' : Ups} (H : Abs rt cs cs' u) (K : Abs rt ds ds' u') : Abs rt (cs ++ ds) (cs' ++ ds') (u ++ u') := by
  induction H with
  | nil => exact K
  | ref a b _ ih => exact .ref a b ih
  | nl _ ih => exact .nl ih
  | sc a _ ih => exact .sc a ih
theorem Abs.len {cs cs' : List PI.C} (H : Abs rt cs cs' u) : cs.length = cs'.length := by
  induction H with
  | nil => rfl
  | ref _ _ _ ih => simp [ih]
  | nl _ ih => simp [ih]
  | sc _ _ ih => simp [ih]
theorem absorbAll_run : ∀ {els : List (List PI.C)} {K : List (List PI.C) → Ups → RM} {v : V} {u : Ups} {l : List Nat}, (absorbAll els K).run call rt = some (v, u, l) →
    ∃ els' u' l', Abs rt els.flatten els'.flatten u' ∧ Pw (fun (x y : List PI.C) => x.length = y.length) els els' ∧ (K els' u').run call rt = some (v, u, l')
  | [], K, v, u, l, H => ⟨[], [], l, .nil, .nil, H⟩
  | el :: els, K, v, u, l, H => by
    simp only [absorbAll] at H
    obtain ⟨el', u1, l1, h1, H⟩ := absorb_run H
    obtain ⟨els', u2, l2, h2, h3, H⟩ := absorbAll_run H
    obtain ⟨_, H⟩ := chk_run H
    refine ⟨_, _, l2, ?_, .cons ?_ h3, H⟩
    · simpa using h1.app h2
    · exact h1.len
theorem Abs.mem {cs cs' : List PI.C} (H : Abs rt cs cs' u) : ∀ x ∈ u, x.2 = none ∧ ∃ vs rows foc, rt x.1 = some (.row false vs rows foc) := by
  induction H with
  | nil => simp
  | ref a _ _ ih =>
    intro x hx
    rcases List.mem_cons.1 hx with rfl | hx
    · exact ⟨rfl, _, _, _, a⟩
    · exact ih x hx
  | nl _ ih => exact ih
  | sc _ _ ih => exact ih
theorem scalar_sc {h : Hp} {c : PI.C} {x : Value} (H : Leaf h R rt γ c x) (hs : c.scalar = true) : PI.sc c x := by
  cases c
  case int => exact VR_int (h := h) (R := R) (rt := rt) (γ := γ) H
  case bool => exact VR_bool (h := h) (R := R) (rt := rt) (γ := γ) H
  case str => exact VR_str (h := h) (R := R) (rt := rt) (γ := γ) H
  case fn => exact VR_fn (h := h) (R := R) (rt := rt) (γ := γ) H
  all_goals simp [C.scalar] at hs
theorem Abs.own {R' : Nat → Prop} (M : Mem X rt w R γ) {cs cs' : List PI.C} (H : Abs rt cs cs' u) : ∀ {vs : List Value}, Pw (Leaf (hp w) R rt γ) cs vs → distinct (u.map (·.1)) = true → Own (hp w) R' (fun b => ∃ x ∈ u, (γ x.1).own b) cs' vs := by
  induction H with
  | nil => intro vs hp _; cases hp; exact .nil
  | @ref k len vs rows foc cs cs' u hr hl hA ih =>
    intro vs' hp hd
    rw [List.map_cons, distinct_cons] at hd
    cases hp with
    | @cons _ x _ xs hx ht =>
      obtain ⟨p, cap, rfl, _, _, hf⟩ := hx
      obtain ⟨h1, h2⟩ := (hf (eff rows foc) (by rw [hr]; rfl)).2 (by rw [eff_len, hl])
      subst h1; subst h2
      have o1 := (M.root k _ hr).1
      rw [eff_len, hl] at o1
      refine (o1.sl_any (R' := R')).app (ih ht hd.2) ?_ (fun b h => ⟨_, List.mem_cons_self .., h⟩) (fun b ⟨x, hx, h⟩ => ⟨x, List.mem_cons_of_mem _ hx, h⟩)
      rintro b hb ⟨x, hx, hxb⟩
      obtain ⟨_, vs2, rows2, foc2, hr2⟩ := hA.mem x hx
      exact M.disj k x.1 _ _ b (fun e => hd.1 (List.mem_map.2 ⟨x, hx, e.symm⟩)) hr hr2 hb hxb
  | nl _ ih =>
    intro vs hp hd
    cases hp with
    | cons hx ht =>
      have := VR_nil (h := PI.hp w) (R := R) (rt := rt) (γ := γ) hx
      subst this
      exact .e (ih ht hd)
  | @sc c cs cs' u hs _ ih =>
    intro vs hp hd
    cases hp with
    | cons hx ht =>
      refine .ro ?_ ?_ (ih ht hd)
      · cases c <;> simp_all [C.scalar, C.isSl]
      · exact .sc (scalar_sc hx hs) .nil
theorem Abs.scalar {cs cs' : List PI.C} (H : Abs rt cs cs' u) (h : cs'.all C.scalar = true) : u = [] := by
  induction H with
  | nil => rfl
  | ref => simp [C.scalar] at h
  | nl => simp [C.scalar] at h
  | sc _ _ ih => simp only [List.all_cons, Bool.and_eq_true] at h; exact ih h.2
theorem setAt_take {α : Type} {l new : List α} {o n : Nat} (h : o + new.length ≤ n) (hn : n ≤ l.length) : (setAt l o new).take n = setAt (l.take n) o new := by
  apply List.ext_getElem?
  intro j
  rw [List.getElem?_take, setAt_at (by omega), setAt_at (by simp; omega), List.getElem?_take]
  by_cases h1 : o ≤ j ∧ j < o + new.length
  · rw [if_pos h1, if_pos (by omega), if_pos h1]
  · rw [if_neg h1, if_neg h1]
theorem scalar_notslice {h : Hp} {c : PI.C} {p : Option Addr} {n cap : Nat} (H : Ro h R [c] [.slice p n cap]) (hs : c.scalar = true) : False := by
  have := H.sc_inv (by cases c <;> simp_all [isRow, C.scalar]) (by cases c <;> simp_all [C.scalar])
  cases c <;> simp_all [sc, C.scalar]
theorem store_el (M : Mem X rt w R γ) {t : TypeId} {inf : TypeInfo} {x : Operand} {y : Operand} {k tot i off vs : Nat} {par : Bool} {xs xs' : List PI.C} {rows base : List (List PI.C)} {foc : Option (Nat × List PI.C)} {el : List PI.C} {us : Ups}
    (ho : op.op = .store t x y) (hi : P.info? t = some inf) (hx : VR (hp w) R rt γ (.one (.eptr k tot i off)) (a.eval x)) (hy : Pw (Leaf (hp w) R rt γ) xs (a.eval y).cells.toList) (hl : xs.length = inf.size)
    (hr : rt k = some (.row par vs rows foc)) (hq : rows.length = tot) (he : (eff rows foc)[i]? = some el) (hbase : ∀ new, base.set i new = (eff rows foc).set i new) (hbl : base.length = rows.length) (hle : off + inf.size ≤ el.length)
    (hA : Abs rt xs xs' us)
    (hd : distinct (((k, some (Root.row par (if xs'.all C.scalar && (cut off inf.size el).all C.scalar then vs else vs + 1) base (some (i, setAt el off xs')))) :: us).map (·.1)) = true) :
    Did P X rt w R γ a op undefV ((k, some (.row par (if xs'.all C.scalar && (cut off inf.size el).all C.scalar then vs else vs + 1) base (some (i, setAt el off xs')))) :: us) := by
  generalize hvs' : (if (xs'.all C.scalar && (cut off inf.size el).all C.scalar) = true then vs else vs + 1) = vs' at hd ⊢
  have hkr : k ∉ us.map (·.1) := by rw [List.map_cons, distinct_cons] at hd; exact hd.1
  have hdu : distinct (us.map (·.1)) = true := by rw [List.map_cons, distinct_cons] at hd; exact hd.2
  obtain ⟨ad, e, hit, _, hb⟩ := hx
  have hra : rowsAt (rt k) = some (eff rows foc) := by rw [hr]; rfl
  obtain ⟨b, sz, hu, hb1, rfl⟩ := (hb _ hra).2 (by rw [eff_len, hq])
  obtain ⟨_, h | ⟨b', arr, elem, sz', B1, hne, g1, g2, g3, g4, g5, g6, nb, ob, sub⟩⟩ := (M.root k _ hr).1.inv
  · rw [h.1] at he; simp at he
  have : b = b' := by rw [hb1] at g1; injection g1 with g1; injection g1
  subst this
  have s1 := g3 el (List.mem_of_getElem? he)
  have s2 := hu el (List.mem_of_getElem? he)
  have : sz = sz' := by omega
  subst this
  have hlt := lt_of_at he
  have hb2 : i * sz + sz ≤ (eff rows foc).length * sz := by rw [← Nat.succ_mul]; exact Nat.mul_le_mul_right _ hlt
  have hb3 : (eff rows foc).length * sz ≤ arr.size := by rw [g5]; exact Nat.mul_le_mul_right _ g4
  have hlv : (a.eval y).cells.toList.length = inf.size := by rw [← hl, hy.len]
  have hsz : (a.eval y).cells.size = inf.size := by simpa using hlv
  have hlx : xs'.length = inf.size := by rw [← hA.len, hl]
  obtain ⟨w', arr', r1, r2, r3, r4, r5, r6⟩ := run_storeVar (P := P) hi g2 hsz (o := i * sz + off) (by omega) (fun z hz => by obtain ⟨c, hc⟩ := hy.right hz; exact Leaf.one hc)
  have hex : (execOp a.eval op).run P w = .ok .skip w' := by simp [execOp, ho, e, Instr.storeAt, Instr.sureAddr, r1]
  have hsize : arr'.size = arr.size := by
    have : arr'.toList.length = arr.toList.length := by rw [r3]; exact setAt_len (by simp [hsz]; omega)
    simpa using this
  let own' : Nat → Prop := fun z => (γ k).own z ∨ ∃ q ∈ us, (γ q.1).own z
  let γ' : Gm := Gm.set γ k ⟨(γ k).addr, (γ k).cap, own'⟩
  have gk : γ' k = ⟨(γ k).addr, (γ k).cap, own'⟩ := Gm.set_eq ..
  have gn : ∀ m, m ≠ k → γ' m = γ m := fun m h => Gm.set_ne _ _ h
  let U : Ups := (k, some (.row par vs' base (some (i, setAt el off xs')))) :: us
  have uk : PI.upd rt U k = some (.row par vs' base (some (i, setAt el off xs'))) := upd_new hd (List.mem_cons_self ..)
  have hu2 : ∀ {m : Nat} {q : Root}, m ∈ U.map (·.1) → PI.upd rt U m = some q → (m = k ∧ q = .row par vs' base (some (i, setAt el off xs'))) ∨ q = .dead := by
    intro m q hm hq
    rcases upd_cases hd rt m with ⟨h, _⟩ | ⟨z, h1, h2⟩
    · exact absurd hm h
    · have h5 : some q = some (z.getD .dead) := hq.symm.trans h2
      rcases List.mem_cons.1 h1 with h | h
      · simp only [Prod.mk.injEq] at h; obtain ⟨e1, rfl⟩ := h
        simp only [Option.getD_some, Option.some.injEq] at h5; exact .inl ⟨e1, h5⟩
      · have h3 := (hA.mem _ h).1; simp only at h3; subst h3
        simp only [Option.getD_none, Option.some.injEq] at h5
        exact .inr h5
  have hR : ∀ z, R z → hp w' z = hp w z := fun z hz => r4 z (fun e => M.ownR k _ b hr ob (e ▸ hz))
  have usOwn : ∀ q ∈ us, ∀ z, (γ q.1).own z → ¬ (γ k).own z := by
    intro q hq z hz hz2
    obtain ⟨_, _, _, _, hr2⟩ := hA.mem q hq
    exact M.disj k q.1 _ _ z (fun e => hkr (List.mem_map.2 ⟨q, hq, e.symm⟩)) hr hr2 hz2 hz
  have heff : eff base (some (i, setAt el off xs')) = (eff rows foc).set i (setAt el off xs') := hbase _
  have hel' : (setAt el off xs').length = sz := by rw [setAt_len (by omega), s1]
  have huni' : ∀ z ∈ (eff rows foc).set i (setAt el off xs'), z.length = sz := by
    intro z hz
    rcases List.mem_or_eq_of_mem_set hz with h | h
    · exact g3 z h
    · rw [h, hel']
  have hflat : (eff rows foc).flatten = (((eff rows foc).take i).flatten ++ el.take off) ++ (cut off inf.size el ++ (el.drop (off + inf.size) ++ ((eff rows foc).drop (i + 1)).flatten)) := by
    rw [flatten_at he]
    conv => lhs; rw [← List.take_append_drop off el, ← List.take_append_drop inf.size (el.drop off)]
    rw [List.drop_drop]
    simp [cut, List.append_assoc]
  have hflat' : ((eff rows foc).set i (setAt el off xs')).flatten = (((eff rows foc).take i).flatten ++ el.take off) ++ (xs' ++ (el.drop (off + inf.size) ++ ((eff rows foc).drop (i + 1)).flatten)) := by
    rw [flatten_set he]; simp [setAt, hlx, List.append_assoc]
  have hpre : (((eff rows foc).take i).flatten ++ el.take off).length = i * sz + off := by
    rw [List.length_append, take_len g3 (by omega), List.length_take]; omega
  have gown : ∀ h2 : Hp, (∀ z, R z → h2 z = hp w z) → (∀ z, z ≠ b → h2 z = hp w z) → h2 b = some (.cells arr' elem (0, 0)) →
      Own h2 R own' [.sl ((eff rows foc).set i (setAt el off xs'))] [.slice (γ k).addr ((eff rows foc).set i (setAt el off xs')).length (γ k).cap] := by
    intro h2 q1 q2 q3
    rw [hflat] at g6
    obtain ⟨C1, C2, v1, v2, v3, hv, lv1, o1, dj, m1, m2, lv3, put⟩ := g6.part
    have hv2 : v2.length = inf.size := by rw [← o1.len]; simp [cut]; omega
    have oa := (hA.own (R' := fun _ => False) M hy hdu).mono (h' := h2) (R' := fun _ => False) (B' := fun z => ∃ q ∈ us, (γ q.1).own z) (fun _ h => h) (fun _ h => h.elim) (fun z ⟨q, hq, hz⟩ => q2 z (fun e => usOwn q hq z hz (e ▸ ob))) (fun _ h => h)
    have fin := put h2 (fun _ => False) _ (fun z => C2 z ∨ ∃ q ∈ us, (γ q.1).own z) xs' _ (fun _ h => h) (fun _ h => h.elim) (fun z hz => q2 z (fun e => nb (e ▸ m2 z hz))) oa (fun z ⟨q, hq, hz⟩ hz2 => usOwn q hq z hz (sub z (m2 z hz2))) (fun _ h => .inr h) (fun _ h => .inl h)
    rw [← hflat'] at fin
    have hval : v1 ++ ((a.eval y).cells.toList ++ v3) = arr'.toList.take (((eff rows foc).set i (setAt el off xs')).length * sz) := by
      rw [r3, List.length_set, setAt_take (by rw [hlv]; omega) (by simpa using hb3), hv]
      unfold setAt
      have e1 : v1.length = i * sz + off := by rw [← lv1, hpre]
      rw [List.take_left' e1, hlv, ← List.append_assoc v1 v2 v3, List.drop_left' (by simp [e1, hv2])]
    rw [hval] at fin
    rw [hb1]
    refine .row (B2 := fun _ => False) (b := b) ?_ q3 huni' (by simpa using g4) (by rw [hsize, g5]) fin .nil ?_ (fun h => h) (fun _ _ h => h) (.inl ob) ?_ (fun _ h => h.elim)
    · intro h; have := congrArg List.length h; simp at this; rw [this] at hlt; simp at hlt
    · rintro (h | ⟨q, hq, h⟩)
      · exact nb (m2 _ h)
      · exact usOwn q hq _ h ob
    · rintro z (h | h)
      · exact .inl (sub z (m2 z h))
      · exact .inr h
  have hpos : ∀ (j : Nat), arr'.toList[j]? = if i * sz + off ≤ j ∧ j < i * sz + off + inf.size then (a.eval y).cells.toList[j - (i * sz + off)]? else arr.toList[j]? := by
    intro j; rw [r3, setAt_at (by rw [hlv]; simp; omega), hlv]
  obtain ⟨M', E'⟩ := M.upd (w' := w') (R' := R) (γ' := γ') (rt' := PI.upd rt U) (fun m => m ∈ U.map (·.1)) r5 (fun m hm => ⟨upd_none hm, gn m (fun e => hm (by rw [e]; exact List.mem_cons_self ..))⟩)
    (fun m q hm hq => by
      by_cases hmk : m = k
      · subst hmk
        rw [hr] at hq; simp only [Option.some.injEq] at hq; subst hq
        refine ⟨_, uk, ?_⟩
        rw [gk]
        refine ⟨?_, ?_, ?_⟩
        · rw [heff]
          refine ⟨by simp, fun _ => ⟨rfl, rfl, fun s hs z hz => ?_⟩⟩
          rcases List.mem_or_eq_of_mem_set hz with h | h
          · exact hs z h
          · rw [h, hel', ← s1]; exact hs el (List.mem_of_getElem? he)
        · rw [← hvs']; split <;> omega
        · intro hv i2 j2 x2 hN
          rw [heff]
          obtain ⟨⟨p3, n3, c3, rfl⟩, hi2, b2, sz2, arr2, elem2, u2, hj2, ha2, hb2', hx2⟩ := hN
          have : b = b2 := by rw [hb1] at ha2; injection ha2 with ha2; injection ha2
          subst this
          have : arr = arr2 := by rw [g2] at hb2'; injection hb2' with h; injection h
          subst this
          have : sz2 = sz := by rw [← u2 el (List.mem_of_getElem? he), s1]
          subst this
          refine ⟨⟨_, _, _, rfl⟩, by simpa using hi2, b, sz2, arr', elem, huni', hj2, hb1, r2, ?_⟩
          rw [hpos]
          split
          · rename_i hin
            exfalso
            have hsc : (xs'.all C.scalar && (cut off inf.size el).all C.scalar) = true := by
              rw [← hvs'] at hv
              split at hv
              · assumption
              · omega
            simp only [Bool.and_eq_true] at hsc
            obtain ⟨jj, hjj⟩ : ∃ jj, i2 * sz2 + j2 = i * sz2 + jj := ⟨i2 * sz2 + j2 - i * sz2, by omega⟩
            rw [hjj] at hin hx2
            have hc0 : ∃ c0, el[jj]? = some c0 := ⟨_, List.getElem?_eq_getElem (by omega)⟩
            obtain ⟨c0, hc0⟩ := hc0
            have hfl : (eff rows foc).flatten[i * sz2 + jj]? = some c0 := by rw [flat_at hu he (by omega), hc0]
            obtain ⟨z', hz', hcase⟩ := g6.cell hfl
            rw [List.getElem?_take, if_pos (by omega), hx2] at hz'
            injection hz' with hz'; subst hz'
            have hcs : c0.scalar = true := by
              have : (cut off inf.size el)[jj - off]? = some c0 := by
                simp only [cut, List.getElem?_take, List.getElem?_drop]
                rw [if_pos (by omega), show off + (jj - off) = jj by omega, hc0]
              exact List.all_eq_true.1 hsc.2 c0 (List.mem_of_getElem? this)
            rcases hcase with ⟨_, hro⟩ | ⟨_, _, _, rfl, _⟩
            · exact scalar_notslice hro hcs
            · simp [C.scalar] at hcs
          · exact hx2
      · rcases List.mem_cons.1 hm with h | h
        · exact absurd h hmk
        · obtain ⟨z, hz, rfl⟩ := List.mem_map.1 h
          refine ⟨.dead, ?_, ?_⟩
          · have h3 := (hA.mem z hz).1
            have : (z.1, none) ∈ U := by rw [← h3]; exact List.mem_cons_of_mem _ hz
            exact upd_some hd this
          · cases q <;> trivial)
    (fun z _ => by
      by_cases hz : z = b
      · exact .inr ⟨k, _, List.mem_cons_self .., hr, hz ▸ ob⟩
      · exact .inl (r4 z hz))
    (fun _ h => h) (fun _ h => .inl h)
    (fun E m q hm hq => by
      rcases hu2 hm hq with ⟨rfl, rfl⟩ | rfl
      · rw [gk]
        refine ⟨?_, fun j z hz => ?_⟩
        · rw [heff]; exact gown (hp w') hR r4 r2
        · simp only [Option.some.injEq, Prod.mk.injEq] at hz
          rw [← hz.1, hbl, ← eff_len rows foc]; exact hlt
      · trivial)
    (fun m q z hm hq ho => by
      rcases hu2 hm hq with ⟨rfl, rfl⟩ | rfl
      · rw [gk] at ho
        rcases ho with ho | ⟨x, hx, ho⟩
        · have ho2 : Owns (γ m) z (Root.row par vs rows foc) := ho
          refine ⟨M.ownR m _ z hr ho2, ?_, (by have := M.ownIn m _ z hr ho2; exact this), .inr ⟨m, _, hm, hr, ho2⟩⟩
          rw [r6]; exact M.ownLt m _ z hr ho2
        · obtain ⟨_, vs2, rows2, foc2, hr2⟩ := hA.mem x hx
          have ho2 : Owns (γ x.1) z (Root.row false vs2 rows2 foc2) := ho
          refine ⟨M.ownR x.1 _ z hr2 ho2, ?_, .inl ?_, .inr ⟨x.1, _, List.mem_cons_of_mem _ (List.mem_map.2 ⟨x, hx, rfl⟩), hr2, ho2⟩⟩
          · rw [r6]; exact M.ownLt x.1 _ z hr2 ho2
          · rcases M.ownIn x.1 _ z hr2 ho2 with h | h
            · exact h
            · simp [Root.par] at h
      · exact ho.elim)
    (fun m m' q q' z hne hm hm' hq hq' ho ho' => by
      rcases hu2 hm hq with ⟨rfl, rfl⟩ | rfl
      · rcases hu2 hm' hq' with ⟨rfl, rfl⟩ | rfl
        · exact hne rfl
        · exact ho'.elim
      · exact ho.elim)
    (fun m q hm hq => by
      rcases hu2 hm hq with ⟨rfl, rfl⟩ | rfl
      · rw [gk]
        cases par with
        | false => trivial
        | true =>
          obtain ⟨rows0, p1, p2, p3⟩ := M.par m _ hr
          refine ⟨rows0, p1, by rw [heff]; simpa using p2, fun s hs z hz => ?_⟩
          rw [heff] at hz
          rcases List.mem_or_eq_of_mem_set hz with h | h
          · exact p3 s hs z h
          · rw [h, hel', ← s1]; exact p3 s hs el (List.mem_of_getElem? he)
      · trivial)
  exact ⟨_, undef, w', hex, .inr ⟨rfl, rfl⟩, R, γ', M', E', fun _ h => h, hR, ⟨#[], rfl, .nil⟩⟩
theorem op_store (M : Mem X rt w R γ) (E : EnvR (hp w) R rt γ env a.tmps) {sz : Nat} {y z : Opd} (C : chkOp P op.op (.store sz y z) = true) (hd : distinct (u.map (·.1)) = true) (H : ((POp.store sz y z).rm cfg d env).run call rt = some (v, u, l)) : Did P X rt w R γ a op v u := by
  obtain ⟨v1, hv1, H⟩ := opd_run H
  obtain ⟨xs, hxs, H⟩ := optRM_run H
  split at H
  · rename_i hl
    obtain ⟨v2, hv2, H⟩ := opd_run H
    cases ho : op.op <;> simp only [ho, chkOp, Bool.false_eq_true, Bool.and_eq_true] at C
    rename_i t x x2
    obtain ⟨C1, C2, C3⟩ := C
    obtain ⟨inf, hi, rfl⟩ := sizeIs_some C3
    have hx := opd_eval E C1 hv2
    have hy := VR_cells (opd_eval E C2 hv1) hxs
    split at H
    · rename_i c
      unfold storeAt at H
      split at H
      · obtain ⟨r, l1, hr, H⟩ := rd_run H
        split at H
        · split at H
          · rename_i hc
            obtain ⟨hn, l2, H⟩ := absent_run H
            have := ret_run H; simp only [Prod.mk.injEq] at this; obtain ⟨rfl, rfl, _⟩ := this
            exact store_box M ho hi hx hy hl hr hc.1 hc.2 hd hn
          · exact (fail_run H).elim
        · exact (fail_run H).elim
      · obtain ⟨r, l1, hr, H⟩ := rd_run H
        split at H
        · obtain ⟨hq, H⟩ := chk_run H
          obtain ⟨el, base, he, hb, hbl, H⟩ := elAt_run H (M.root _ _ hr).2
          split at H
          · rename_i hle
            obtain ⟨xs', us, l2, hA, H⟩ := absorb_run H
            obtain ⟨_, H⟩ := chk_run H
            have := ret_run H; simp only [Prod.mk.injEq] at this; obtain ⟨rfl, rfl, _⟩ := this
            exact store_el M ho hi hx hy hl hr (of_decide_eq_true hq) he hb hbl hle hA hd
          · exact (fail_run H).elim
        · exact (fail_run H).elim
      · exact (fail_run H).elim
    · exact (fail_run H).elim
  · exact (fail_run H).elim
end
end Go.Proofs.Ytdgamfanffnhaaa.PI

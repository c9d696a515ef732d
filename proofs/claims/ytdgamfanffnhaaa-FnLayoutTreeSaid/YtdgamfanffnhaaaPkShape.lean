/-
  What is handed to a law, as PI's words; and what PI answers, as a call's promise. No condition.
-/
import Derived.Test.YtdgamfanffnhaaaPkFun
import Derived.Test.YtdgamfanffnhaaaPkLim
import Derived.ProofKit
set_option linter.unusedVariables false
set_option linter.unusedSimpArgs false
namespace Go.Proofs.Ytdgamfanffnhaaa.PI
open Go
inductive Kd where
  | int (k : IntKind)
  | bool
  | str
  | sl (e : Kd)
  | st (fs : Kd)
  | fnil
  | fcons (k r : Kd)
def Kd.size : Kd → Nat
  | .st fs => fs.size
  | .fnil => 0
  | .fcons k r => k.size + r.size
  | _ => 1
def kdOk (P : Program) : Kd → (TypeId ⊕ (List Field × Nat)) → Bool
  | .int k, .inl t => descIs P t (isIntD k)
  | .bool, .inl t => descIs P t isBoolD
  | .str, .inl t => descIs P t isStrD
  | .sl e, .inl t => (match elemOf P t with
    | some u => kdOk P e (.inl u) && (P.cellsOf u == e.size && decide (0 < e.size))
    | none => false)
  | .st fs, .inl t => (match fieldsOf P t with
    | some l => kdOk P fs (.inr (l, 0)) && P.cellsOf t == fs.size
    | none => false)
  | .fnil, .inr (l, _) => l.isEmpty
  | .fcons k r, .inr (l, o) => (match l with
    | f :: l' => f.offset == o && (kdOk P k (.inl f.type) && (P.cellsOf f.type == k.size && kdOk P r (.inr (l', o + k.size))))
    | [] => false)
  | _, _ => false
def Sh : Kd → List C → Prop
  | .int k, cs => ∃ n, cs = [.int k n] ∧ (Lit.int k n).wf = true
  | .bool, cs => ∃ b, cs = [.bool b]
  | .str, cs => ∃ s, cs = [.str s] ∧ s.size ≤ maxLen
  | .sl e, cs => ∃ rows, cs = [.sl rows] ∧ rows.length ≤ maxLen ∧ ∀ r ∈ rows, Sh e r
  | .st fs, cs => Sh fs cs
  | .fnil, cs => cs = []
  | .fcons k r, cs => ∃ a b, cs = a ++ b ∧ Sh k a ∧ Sh r b
section
variable {H : Type} {enc : TypeId × Value → H} {P : Program} {w : World} {base : Nat} {spare : Nat → Bool} {held : Bool}
theorem Sh.len : ∀ {k : Kd} {cs : List C}, Sh k cs → cs.length = k.size
  | .int k, cs, h => by obtain ⟨n, rfl, _⟩ := h; rfl
  | .bool, cs, h => by obtain ⟨n, rfl⟩ := h; rfl
  | .str, cs, h => by obtain ⟨n, rfl, _⟩ := h; rfl
  | .sl e, cs, h => by obtain ⟨n, rfl, _⟩ := h; rfl
  | .st fs, cs, h => Sh.len (k := fs) h
  | .fnil, cs, h => by have : cs = [] := h; subst this; rfl
  | .fcons k r, cs, h => by obtain ⟨a, b, rfl, ha, hb⟩ := h; simp [Kd.size, Sh.len ha, Sh.len hb]
abbrev Rw (w : World) : Nat → Prop := fun b => b < w.heap.size
theorem heap_lt {b : Nat} {o : Obj} (h : hp w b = some o) : b < w.heap.size := by
  rcases Nat.lt_or_ge b w.heap.size with q | q
  · exact q
  · have h' : w.heap[b]? = some o := h
    simp [Array.getElem?_eq_none q] at h'
theorem cell_hp {b o : Nat} {v : Value} (h : w.cell? ⟨b, o, none⟩ = some v) : ∃ arr elem fr, hp w b = some (.cells arr elem fr) ∧ arr.toList[o]? = some v := by
  unfold World.cell? at h
  split at h
  · rename_i c e f hc
    refine ⟨c, e, f, hc, ?_⟩
    simpa using h
  · cases h
theorem rows_of {R : Nat → Prop} {arr : Array Value} {sz : Nat} : ∀ (n off : Nat) (f : Nat → List C) (g : Nat → List Value), (∀ i, i < n → Ro (hp w) R (f i) (g i) ∧ (f i).length = sz ∧ (g i).length = sz ∧ ∀ j, j < sz → arr.toList[off + (i * sz + j)]? = (g i)[j]?) →
    Ro (hp w) R ((List.range n).map f).flatten ((arr.toList.drop off).take (n * sz)) ∧ (n = 0 ∨ off + n * sz ≤ arr.size ∨ sz = 0)
  | 0, off, f, g, _ => by simpa using Ro.nil
  | n + 1, off, f, g, h => by
    obtain ⟨r1, l1, l2, c1⟩ := h 0 (by omega)
    have ih := rows_of n (off + sz) (fun i => f (i + 1)) (fun i => g (i + 1)) (fun i hi => by
      obtain ⟨a, b, c, d⟩ := h (i + 1) (by omega)
      refine ⟨a, b, c, fun j hj => ?_⟩
      rw [← d j hj]; congr 1
      rw [Nat.add_mul, Nat.one_mul]; omega)
    have hsz : sz = 0 ∨ off + sz ≤ arr.size := by
      by_cases h0 : sz = 0
      · exact .inl h0
      · right
        have hg : (g 0)[sz - 1]? = some ((g 0)[sz - 1]'(by omega)) := List.getElem?_eq_getElem (by omega)
        have := lt_of_at ((c1 (sz - 1) (by omega)).trans hg)
        simp at this; omega
    have eg : (arr.toList.drop off).take sz = g 0 := by
      apply List.ext_getElem?
      intro j
      rw [List.getElem?_take]
      split
      · rename_i hj
        rw [List.getElem?_drop]
        have := c1 j hj
        simpa using this
      · rw [List.getElem?_eq_none (by omega)]
    refine ⟨?_, ?_⟩
    · rw [List.range_succ_eq_map, List.map_cons, List.flatten_cons, List.map_map]
      have e2 : (arr.toList.drop off).take ((n + 1) * sz) = g 0 ++ (arr.toList.drop (off + sz)).take (n * sz) := by
        rw [← eg, Nat.add_mul, Nat.one_mul, Nat.add_comm (n * sz) sz, List.take_add, List.drop_drop]
      rw [e2]
      exact r1.app ih.1
    · rcases hsz with q | q
      · exact .inr (.inr q)
      · rcases ih.2 with z | z | z
        · exact .inr (.inl (by subst z; simpa using q))
        · refine .inr (.inl ?_); rw [Nat.add_mul, Nat.one_mul]; omega
        · exact .inr (.inr z)
theorem trod_sh : ∀ (k : Kd), (∀ (t : TypeId) (fuel : Nat) (vs : List Value) (x : DataW H × List MemPlace), kdOk P k (.inl t) = true → DataW.trod enc P w base spare held fuel t vs = some x → ∃ cs, Sh k cs ∧ Ro (hp w) (Rw w) cs vs) ∧
    (∀ (l : List Field) (o fuel : Nat) (vs : List Value), kdOk P k (.inr (l, o)) = true → vs.length = o + k.size → (∀ f ∈ l, ∃ x, DataW.trod enc P w base spare held fuel f.type ((vs.drop f.offset).take (P.cellsOf f.type)) = some x) → ∃ cs, Sh k cs ∧ Ro (hp w) (Rw w) cs (vs.drop o)) := by
  intro k
  induction k with
  | int k =>
    refine ⟨fun t fuel vs x h hx => ?_, fun l o fuel vs h => by simp [kdOk] at h⟩
    obtain ⟨D, hD, hk⟩ := descIs_some h
    cases D <;> simp only [isIntD, Bool.false_eq_true, decide_eq_true_eq] at hk
    subst hk
    obtain ⟨n, rfl, _, hw⟩ := DataW.trod_int hD hx
    exact ⟨_, ⟨n, rfl, hw⟩, .sc rfl .nil⟩
  | bool =>
    refine ⟨fun t fuel vs x h hx => ?_, fun l o fuel vs h => by simp [kdOk] at h⟩
    obtain ⟨D, hD, hk⟩ := descIs_some h
    cases D <;> simp only [isBoolD, Bool.false_eq_true] at hk
    obtain ⟨n, rfl, _⟩ := DataW.trod_bool hD hx
    exact ⟨_, ⟨n, rfl⟩, .sc rfl .nil⟩
  | str =>
    refine ⟨fun t fuel vs x h hx => ?_, fun l o fuel vs h => by simp [kdOk] at h⟩
    obtain ⟨D, hD, hk⟩ := descIs_some h
    cases D <;> simp only [isStrD, Bool.false_eq_true] at hk
    obtain ⟨n, rfl, _, hw⟩ := DataW.trod_string hD hx
    exact ⟨_, ⟨n, rfl, hw⟩, .sc rfl .nil⟩
  | sl e ih =>
    refine ⟨fun t fuel vs x h hx => ?_, fun l o fuel vs h => by simp [kdOk] at h⟩
    simp only [kdOk] at h
    split at h
    case h_2 => cases h
    rename_i u hu
    simp only [Bool.and_eq_true, beq_iff_eq, decide_eq_true_eq] at h
    obtain ⟨h1, h2, h3⟩ := h
    have ht := elemOf_some hu
    rcases DataW.trod_slice ht hx with ⟨rfl, _⟩ | ⟨a, len, cap, elems, rest, n, _, rfl, _, _, hlc, hcm, hel, hread, _, _⟩
    · exact ⟨[.sl []], ⟨[], rfl, by simp, by simp⟩, .e (.inl rfl) .nil⟩
    · by_cases h0 : len = 0
      · subst h0
        exact ⟨[.sl []], ⟨[], rfl, by simp, by simp⟩, .e (.inl rfl) .nil⟩
      · obtain ⟨b, off, spot⟩ := a
        have each : ∀ i, i < len → ∃ cs vs', Sh e cs ∧ Ro (hp w) (Rw w) cs vs' ∧ vs'.length = e.size ∧ ∀ j, j < e.size → w.cell? ((Addr.mk b off spot).add (i * e.size) |>.add j) = vs'[j]? := by
          intro i hi
          have hr := hread i hi
          rw [List.getElem?_eq_getElem (by omega), h2] at hr
          obtain ⟨vs', hc, hd⟩ := Option.bind_eq_some_iff.1 hr
          obtain ⟨_, hl, hcell⟩ := World.cells?_some hc
          obtain ⟨cs, hs, hro⟩ := ih.1 u n vs' _ h1 hd
          exact ⟨cs, vs', hs, hro, hl, hcell⟩
        have hspot : spot = none := by
          obtain ⟨cs, vs', _, _, hl, hc⟩ := each 0 (by omega)
          have := hc 0 h3
          rw [List.getElem?_eq_getElem (by omega)] at this
          simpa [Addr.add] using World.cell?_spot this
        subst hspot
        have cell : ∀ i, i < len → ∃ cs vs', Sh e cs ∧ Ro (hp w) (Rw w) cs vs' ∧ vs'.length = e.size ∧ ∀ j, j < e.size → w.cell? ⟨b, off + (i * e.size + j), none⟩ = vs'[j]? := by
          intro i hi
          obtain ⟨cs, vs', q1, q2, q3, q4⟩ := each i hi
          refine ⟨cs, vs', q1, q2, q3, fun j hj => ?_⟩
          rw [← q4 j hj, add_none, add_none, Nat.add_assoc]
        obtain ⟨arr, elem, fr, hb, _⟩ : ∃ arr elem fr, hp w b = some (.cells arr elem fr) ∧ True := by
          obtain ⟨cs, vs', _, _, hl, hc⟩ := cell 0 (by omega)
          have := hc 0 h3
          rw [List.getElem?_eq_getElem (by omega)] at this
          obtain ⟨arr, elem, fr, q, _⟩ := cell_hp this
          exact ⟨arr, elem, fr, q, trivial⟩
        have tot : ∀ i, ∃ p : List C × List Value, i < len → Sh e p.1 ∧ Ro (hp w) (Rw w) p.1 p.2 ∧ p.2.length = e.size ∧ ∀ j, j < e.size → arr.toList[off + (i * e.size + j)]? = p.2[j]? := by
          intro i
          by_cases hi : i < len
          · obtain ⟨cs, vs', q1, q2, q3, q4⟩ := cell i hi
            refine ⟨(cs, vs'), fun _ => ⟨q1, q2, q3, fun j hj => ?_⟩⟩
            rw [← q4 j hj]; exact (hp_cell hb _).symm
          · exact ⟨([], []), fun h => absurd h hi⟩
        obtain ⟨f, hf⟩ := Classical.axiomOfChoice tot
        have hrows := rows_of (w := w) (R := Rw w) (arr := arr) (sz := e.size) len off (fun i => (f i).1) (fun i => (f i).2) (fun i hi => by
          obtain ⟨q1, q2, q3, q4⟩ := hf i hi
          exact ⟨q2, q1.len, q3, q4⟩)
        have hall : ∀ r ∈ (List.range len).map fun i => (f i).1, Sh e r := by
          intro r hr
          obtain ⟨i, hi, rfl⟩ := List.mem_map.1 hr
          exact (hf i (by simpa using hi)).1
        have hlen : ((List.range len).map fun i => (f i).1).length = len := by simp
        refine ⟨[.sl ((List.range len).map fun i => (f i).1)], ⟨_, rfl, by rw [hlen]; omega, hall⟩, ?_⟩
        suffices z : Ro (hp w) (Rw w) [.sl ((List.range len).map fun i => (f i).1)] [.slice (some ⟨b, off, none⟩) ((List.range len).map fun i => (f i).1).length cap] by
          rw [hlen] at z; exact z
        refine .row (sz := e.size) (.inl rfl) (by intro q; rw [q] at hlen; simp at hlen; omega) (heap_lt hb) hb (fun el hel => (hall el hel).len) ?_ (by rw [hlen]; exact hlc) (by rw [hlen]; exact hrows.1) .nil
        rw [hlen]
        rcases hrows.2 with q | q | q
        · omega
        · exact q
        · omega
  | st fs ih =>
    refine ⟨fun t fuel vs x h hx => ?_, fun l o fuel vs h => by simp [kdOk] at h⟩
    simp only [kdOk] at h
    split at h
    case h_2 => cases h
    rename_i l hl
    simp only [Bool.and_eq_true, beq_iff_eq] at h
    obtain ⟨h1, h2⟩ := h
    have ht := fieldsOf_some hl
    obtain ⟨xs, n, rfl, _, hlen, hxl, hread⟩ := DataW.trod_struct ht hx
    obtain ⟨cs, q1, q2⟩ := ih.2 l 0 n vs h1 (by omega) (fun f hf => by
      obtain ⟨i, hi, rfl⟩ := List.mem_iff_getElem.1 hf
      have := hread i l[i] (by simp [hi])
      rw [List.getElem?_eq_getElem (by simpa [hxl] using hi)] at this
      exact ⟨_, this⟩)
    exact ⟨cs, q1, by simpa using q2⟩
  | fnil =>
    refine ⟨fun t fuel vs x h => by simp [kdOk] at h, fun l o fuel vs h hl _ => ?_⟩
    refine ⟨[], rfl, ?_⟩
    have : vs.drop o = [] := List.drop_eq_nil_of_le (by simp [Kd.size] at hl; omega)
    rw [this]; exact .nil
  | fcons k r ihk ihr =>
    refine ⟨fun t fuel vs x h => by simp [kdOk] at h, fun l o fuel vs h hl hread => ?_⟩
    simp only [kdOk] at h
    split at h
    case h_2 => cases h
    rename_i f l'
    simp only [Bool.and_eq_true, beq_iff_eq] at h
    obtain ⟨rfl, h2, h3, h4⟩ := h
    simp only [Kd.size] at hl
    obtain ⟨x, hx⟩ := hread f (by simp)
    obtain ⟨cs, s1, r1⟩ := ihk.1 _ _ _ _ h2 hx
    obtain ⟨cs', s2, r2⟩ := ihr.2 l' (f.offset + k.size) fuel vs h4 (by omega) (fun g hg => hread g (by simp [hg]))
    refine ⟨cs ++ cs', ⟨cs, cs', rfl, s1, s2⟩, ?_⟩
    have : vs.drop f.offset = (vs.drop f.offset).take k.size ++ vs.drop (f.offset + k.size) := by
      rw [← List.drop_drop, List.take_append_drop]
    rw [this, ← h3]
    rw [h3] at r1 ⊢
    exact r1.app r2
theorem arg_sh {k : Kd} {t : TypeId} {v : Value} {d : DataW H} {ps : List MemPlace} (hk : kdOk P k (.inl t) = true) (h : DataW.Trod enc P w base spare held t v d ps) : ∃ cs, Sh k cs ∧ Ro (hp w) (Rw w) cs v.cells.toList := by
  obtain ⟨fuel, hf⟩ := h
  exact (trod_sh k).1 t fuel _ _ hk hf
theorem ar_ro {h : Hp} {R B : Nat → Prop} : ∀ {vs : List V} {xs : List Value}, Pw (RoV h R) vs xs → AR h R B [] vs xs []
  | [], _, H => by cases H; exact .nil
  | v :: vs, _, H => by
    cases H with
    | cons a t => exact .ro rfl a (ar_ro t)
open Go.RowKit in
theorem answer (hm : P.follows .mixedOrders = true) {funcs : Nat → Option PFunc} {own : Nat → List Bool} (hok : ∀ f pf, funcs f = some pf → okFunc P own f pf = true) {f : Nat} (hown : own f = []) {args : List V} {xs : List Value}
    (hargs : Pw (RoV (hp w) (Rw w)) args xs) (h : pcW funcs own f args = some (.one (.bool true), [])) : Calls P f xs.toArray w fun e w' => e = .returned (.bool true) ∧ Below w.heap.size w w' := by
  obtain ⟨n, hn⟩ := pcW_pcN h
  obtain ⟨_, good⟩ := sound hm hok n f args _ hn
  have := good w (Rw w) (fun _ => False) xs [] (by rw [hown]; exact ar_ro hargs) (fun _ h => h.elim) (fun _ h => h.elim) (fun _ h => h)
  refine this.mono ?_
  rintro e w' ⟨x, rfl, Br, Bo, hRT, _, _, _, _, hfr, al⟩
  refine ⟨?_, al.os, al.tape, al.output, al.size, fun k hk => hfr k hk (fun h => h)⟩
  have hRT : Own (hp w') (Rw w) Br [.bool true] [x] := hRT
  cases hRT with
  | ro _ r _ =>
    cases r with
    | sc q _ => rw [show x = .bool true from q]
    | e q _ => rcases q with q | q <;> cases q
    | row q => rcases q with q | q <;> cases q
end
end Go.Proofs.Ytdgamfanffnhaaa.PI

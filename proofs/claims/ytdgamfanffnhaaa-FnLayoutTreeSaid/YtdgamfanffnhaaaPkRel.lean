/-
  What PI's words say of the machine's memory: what is only read (Ro), what is owned (Own), and laws of both. No condition.
-/
import Derived.Test.YtdgamfanffnhaaaPkCore
set_option linter.unusedVariables false
set_option linter.unusedSimpArgs false
namespace Go.Proofs.Ytdgamfanffnhaaa.PI
open Go
abbrev Hp := Nat → Option Obj
def hp (w : World) : Hp := fun b => w.heap[b]?
def sc : C → Value → Prop
  | .int k n, v => v = .int k n
  | .bool b, v => v = .bool b
  | .str s, v => v = .string s
  | .fn f, v => v = .func (.func f) #[] #[]
  | .np, v => v = .pointer none
  | .nil, v => v = .slice none 0 0
  | .em b, v => ∃ (a : Option Addr) (cap : Nat), v = .slice a 0 cap ∧ a.isNone = b
  | _, _ => False
def isRow (c : C) (rows : List (List C)) : Prop := c = .sl rows ∨ c = .rsl rows
inductive Ro (h : Hp) (R : Nat → Prop) : List C → List Value → Prop
  | nil : Ro h R [] []
  | sc {c v cs vs} : sc c v → Ro h R cs vs → Ro h R (c :: cs) (v :: vs)
  | e {c cs a cap vs} : isRow c [] → Ro h R cs vs → Ro h R (c :: cs) (.slice a 0 cap :: vs)
  | row {c cs vs rows b arr elem fr sz off cap} : isRow c rows → rows ≠ [] → R b → h b = some (.cells arr elem fr) → (∀ el ∈ rows, el.length = sz) → off + rows.length * sz ≤ arr.size → rows.length ≤ cap →
      Ro h R rows.flatten ((arr.toList.drop off).take (rows.length * sz)) → Ro h R cs vs → Ro h R (c :: cs) (.slice (some ⟨b, off, none⟩) rows.length cap :: vs)
  | ptr {cs vs el off b arr elem fr o} : R b → h b = some (.cells arr elem fr) → o + el.length ≤ arr.size → Ro h R el ((arr.toList.drop o).take el.length) → Ro h R cs vs →
      Ro h R (.rptr el off :: cs) (.pointer (some ⟨b, o + off, none⟩) :: vs)
inductive Own (h : Hp) : (Nat → Prop) → (Nat → Prop) → List C → List Value → Prop
  | nil {R B} : Own h R B [] []
  | ro {R B c v cs vs} : c.isSl = false → Ro h R [c] [v] → Own h R B cs vs → Own h R B (c :: cs) (v :: vs)
  | e {R B cs a vs} : Own h R B cs vs → Own h R B (.sl [] :: cs) (.slice a 0 0 :: vs)
  | row {R B B1 B2 cs vs rows b arr elem sz cap} : rows ≠ [] → h b = some (.cells arr elem (0, 0)) → (∀ el ∈ rows, el.length = sz) → rows.length ≤ cap → arr.size = cap * sz →
      Own h (fun _ => False) B1 rows.flatten (arr.toList.take (rows.length * sz)) → Own h R B2 cs vs → ¬ B1 b → ¬ B2 b → (∀ x, B1 x → ¬ B2 x) → B b → (∀ x, B1 x → B x) → (∀ x, B2 x → B x) →
      Own h R B (.sl rows :: cs) (.slice (some ⟨b, 0, none⟩) rows.length cap :: vs)
variable {h h' : Hp} {R R' B B' : Nat → Prop}
theorem Ro.mono (hR : ∀ b, R b → R' b) (hh : ∀ b, R b → h' b = h b) {cs vs} (H : Ro h R cs vs) : Ro h' R' cs vs := by
  induction H with
  | nil => exact .nil
  | sc a _ ih => exact .sc a ih
  | e a _ ih => exact .e a ih
  | row a b c d e f g _ _ i j => exact .row a b (hR _ c) ((hh _ c).trans d) e f g i j
  | ptr a b c _ _ i j => exact .ptr (hR _ a) ((hh _ a).trans b) c i j
theorem Ro.len {cs vs} (H : Ro h R cs vs) : cs.length = vs.length := by
  induction H with
  | nil => rfl
  | sc _ _ ih => simp [ih]
  | e _ _ ih => simp [ih]
  | row _ _ _ _ _ _ _ _ _ _ ih => simp [ih]
  | ptr _ _ _ _ _ _ ih => simp [ih]
theorem Ro.app {cs vs ds ws} (H : Ro h R cs vs) (K : Ro h R ds ws) : Ro h R (cs ++ ds) (vs ++ ws) := by
  induction H with
  | nil => exact K
  | sc a _ ih => exact .sc a ih
  | e a _ ih => exact .e a ih
  | row a b c d e f g k _ _ j => exact .row a b c d e f g k j
  | ptr a b c k _ _ j => exact .ptr a b c k j
theorem Ro.tail {c v cs vs} (H : Ro h R (c :: cs) (v :: vs)) : Ro h R cs vs := by
  cases H <;> assumption
theorem Ro.head {c v cs vs} (H : Ro h R (c :: cs) (v :: vs)) : Ro h R [c] [v] := by
  cases H with
  | sc a _ => exact .sc a .nil
  | e a _ => exact .e a .nil
  | row a b c d e f g k _ => exact .row a b c d e f g k .nil
  | ptr a b c k _ => exact .ptr a b c k .nil
theorem Ro.cons {c v cs vs} (H : Ro h R [c] [v]) (K : Ro h R cs vs) : Ro h R (c :: cs) (v :: vs) := H.app K
theorem Ro.drop {cs vs} (H : Ro h R cs vs) (n : Nat) : Ro h R (cs.drop n) (vs.drop n) := by
  induction n generalizing cs vs with
  | zero => exact H
  | succ n ih =>
    cases cs with
    | nil => cases vs with
      | nil => exact .nil
      | cons => cases H
    | cons c cs => cases vs with
      | nil => cases H
      | cons v vs => exact ih H.tail
theorem Ro.take {cs vs} (H : Ro h R cs vs) (n : Nat) : Ro h R (cs.take n) (vs.take n) := by
  induction n generalizing cs vs with
  | zero => simpa using Ro.nil
  | succ n ih =>
    cases cs with
    | nil => cases vs with
      | nil => exact .nil
      | cons => cases H
    | cons c cs => cases vs with
      | nil => cases H
      | cons v vs => exact H.head.cons (ih H.tail)
theorem Ro.cut {cs vs} (H : Ro h R cs vs) (o n : Nat) : Ro h R (PI.cut o n cs) (PI.cut o n vs) := (H.drop o).take n
theorem Own.mono {cs vs} (H : Own h R B cs vs) : ∀ {R' B'}, (∀ b, R b → R' b) → (∀ b, R b → h' b = h b) → (∀ b, B b → h' b = h b) → (∀ b, B b → B' b) → Own h' R' B' cs vs := by
  induction H with
  | nil => intros; exact .nil
  | ro a r _ ih => intro R' B' x y z t; exact .ro a (r.mono x y) (ih x y z t)
  | e _ ih => intro R' B' x y z t; exact .e (ih x y z t)
  | row a b c d e _ _ n1 n2 n3 m1 m2 m3 i j =>
    intro R' B' x y z t
    exact .row a ((z _ m1).trans b) c d e (i (fun _ k => k) (fun _ k => k.elim) (fun b k => z b (m2 b k)) (fun _ k => k)) (j x y (fun b k => z b (m3 b k)) (fun _ k => k)) n1 n2 n3 (t _ m1) (fun b k => t _ (m2 b k)) (fun b k => t _ (m3 b k))
theorem Own.wide {cs vs} (H : Own h R B cs vs) (hB : ∀ b, B b → B' b) : Own h R B' cs vs := H.mono (fun _ k => k) (fun _ _ => rfl) (fun _ _ => rfl) hB
theorem Own.len {cs vs} (H : Own h R B cs vs) : cs.length = vs.length := by
  induction H with
  | nil => rfl
  | ro _ _ _ ih => simp [ih]
  | e _ ih => simp [ih]
  | row _ _ _ _ _ _ _ _ _ _ _ _ _ _ ih => simp [ih]
theorem Own.toRo {cs vs} (H : Own h R B cs vs) : (∀ b, R b → R' b) → (∀ b, B b → R' b) → Ro h R' cs vs := by
  induction H with
  | nil => intros; exact .nil
  | ro a r _ ih => intro hR hB; exact (r.mono hR fun _ _ => rfl).cons (ih hR hB)
  | e _ ih => intro hR hB; exact .e (.inl rfl) (ih hR hB)
  | @row R B B1 B2 cs vs rows b arr elem sz cap a hb c d e _ _ n1 n2 n3 m1 m2 m3 i j =>
    intro hR hB
    refine .row (.inl rfl) a (hB _ m1) hb c ?_ d ?_ (j hR fun b k => hB _ (m3 b k))
    · rw [e]; simpa using Nat.mul_le_mul_right sz d
    · simpa using i (fun _ k => k.elim) fun b k => hB _ (m2 b k)
theorem Own.app {cs vs ds ws} {B1 B2 : Nat → Prop} (H : Own h R B1 cs vs) : ∀ {B}, Own h R B2 ds ws → (∀ x, B1 x → ¬ B2 x) → (∀ x, B1 x → B x) → (∀ x, B2 x → B x) → Own h R B (cs ++ ds) (vs ++ ws) := by
  induction H with
  | nil => intro B K _ _ m; exact K.wide m
  | ro a r _ ih => intro B K n m1 m2; exact .ro a r (ih K n m1 m2)
  | e _ ih => intro B K n m1 m2; exact .e (ih K n m1 m2)
  | @row _ B0 C1 C2 cs vs rows b arr elem sz cap a hb c d e f g n1 n2 n3 p1 p2 p3 i j =>
    intro B K n m1 m2
    refine .row (B1 := C1) (B2 := fun x => C2 x ∨ B2 x) a hb c d e f (j K (fun x k => n x (p3 x k)) (fun x k => .inl k) (fun x k => .inr k)) n1 ?_ ?_ (m1 _ p1) (fun x k => m1 _ (p2 x k)) ?_
    · rintro (k | k)
      · exact n2 k
      · exact n _ p1 k
    · rintro x k (l | l)
      · exact n3 x k l
      · exact n _ (p2 x k) l
    · rintro x (k | k)
      · exact m1 _ (p3 x k)
      · exact m2 _ k
theorem Own.split {ds : List C} : ∀ {cs : List C} {B : Nat → Prop} {vs : List Value}, Own h R B (cs ++ ds) vs → ∃ B1 B2 vs1 vs2, vs = vs1 ++ vs2 ∧ Own h R B1 cs vs1 ∧ Own h R B2 ds vs2 ∧
    (∀ x, B1 x → ¬ B2 x) ∧ (∀ x, B1 x → B x) ∧ (∀ x, B2 x → B x)
  | [], B, vs, H => ⟨fun _ => False, B, [], vs, rfl, .nil, H, fun _ k => k.elim, fun _ k => k.elim, fun _ k => k⟩
  | c :: cs, B, vs, H => by
    rw [List.cons_append] at H
    cases H with
    | ro a r t =>
      obtain ⟨B1, B2, vs1, vs2, e, o1, o2, n, m1, m2⟩ := Own.split t
      exact ⟨B1, B2, _ :: vs1, vs2, by rw [e]; rfl, .ro a r o1, o2, n, m1, m2⟩
    | e t =>
      obtain ⟨B1, B2, vs1, vs2, e, o1, o2, n, m1, m2⟩ := Own.split t
      exact ⟨B1, B2, _ :: vs1, vs2, by rw [e]; rfl, .e o1, o2, n, m1, m2⟩
    | @row _ _ C1 C2 _ vs rows b arr elem sz cap a hb c d e f t n1 n2 n3 p1 p2 p3 =>
      obtain ⟨B1, B2, vs1, vs2, e', o1, o2, n, m1, m2⟩ := Own.split t
      refine ⟨fun x => x = b ∨ C1 x ∨ B1 x, B2, _ :: vs1, vs2, by rw [e']; rfl, .row a hb c d e f o1 n1 (fun k => n2 (m1 _ k)) (fun x k l => n3 x k (m1 _ l)) (.inl rfl) (fun x k => .inr (.inl k)) (fun x k => .inr (.inr k)), o2, ?_, ?_, fun x k => p3 x (m2 x k)⟩
      · rintro x (k | k | k) l
        · exact n2 (k ▸ m2 x l)
        · exact n3 x k (m2 x l)
        · exact n x k l
      · rintro x (k | k | k)
        · exact k ▸ p1
        · exact p2 x k
        · exact p3 x (m1 x k)
theorem Own.sl_any {rows v} (H : Own h R B [.sl rows] [v]) : Own h R' B [.sl rows] [v] := by
  cases H with
  | ro a _ _ => simp [C.isSl] at a
  | e _ => exact .e .nil
  | row a b c d e f _ n1 n2 n3 m1 m2 m3 => exact .row (B2 := fun _ => False) a b c d e f .nil n1 (fun k => k) (fun _ _ k => k) m1 m2 (fun _ k => k.elim)
theorem Own.part {xs el ys : List C} {vs : List Value} (H : Own h R B (xs ++ (el ++ ys)) vs) : ∃ (B1 B2 : Nat → Prop) (v1 v2 v3 : List Value), vs = v1 ++ (v2 ++ v3) ∧ xs.length = v1.length ∧ Own h R B1 el v2 ∧
    (∀ x, B1 x → ¬ B2 x) ∧ (∀ x, B1 x → B x) ∧ (∀ x, B2 x → B x) ∧ ys.length = v3.length ∧
    ∀ (h' : Hp) (R' B1' B' : Nat → Prop) el' v2', (∀ b, R b → R' b) → (∀ b, R b → h' b = h b) → (∀ b, B2 b → h' b = h b) → Own h' R' B1' el' v2' → (∀ x, B1' x → ¬ B2 x) → (∀ x, B1' x → B' x) → (∀ x, B2 x → B' x) →
      Own h' R' B' (xs ++ (el' ++ ys)) (v1 ++ (v2' ++ v3)) := by
  obtain ⟨A, A', v1, w, rfl, o1, t, n, m1, m2⟩ := H.split
  obtain ⟨D, D', v2, v3, rfl, o2, o3, n', m1', m2'⟩ := t.split
  refine ⟨D, fun x => A x ∨ D' x, v1, v2, v3, rfl, o1.len, o2, ?_, fun x k => m2 x (m1' x k), ?_, o3.len, ?_⟩
  · rintro x k (l | l)
    · exact n x l (m1' x k)
    · exact n' x k l
  · rintro x (k | k)
    · exact m1 x k
    · exact m2 x (m2' x k)
  · intro h' R' B1' B' el' v2' hR hh hB o nn mm mm'
    refine (o1.mono hR hh (fun b k => hB b (.inl k)) (fun _ k => k)).app (B2 := fun x => B1' x ∨ D' x)
      (o.app (o3.mono hR hh (fun b k => hB b (.inr k)) (fun _ k => k)) (fun x k l => nn x k (.inr l)) (fun _ k => .inl k) (fun _ k => .inr k)) ?_ (fun x k => mm' x (.inl k)) ?_
    · rintro x k (l | l)
      · exact nn x l (.inl k)
      · exact n x k (m2' x l)
    · rintro x (k | k)
      · exact mm x k
      · exact mm' x (.inr k)
theorem flatten_at {α : Type} {rows : List (List α)} {i : Nat} {el : List α} (hi : rows[i]? = some el) : rows.flatten = (rows.take i).flatten ++ (el ++ (rows.drop (i + 1)).flatten) := by
  induction rows generalizing i with
  | nil => simp at hi
  | cons r rows ih =>
    cases i with
    | zero => simp at hi; subst hi; simp
    | succ i => simp at hi; simp [ih hi]
theorem flatten_set {α : Type} {rows : List (List α)} {i : Nat} {el el' : List α} (hi : rows[i]? = some el) : (rows.set i el').flatten = (rows.take i).flatten ++ (el' ++ (rows.drop (i + 1)).flatten) := by
  induction rows generalizing i with
  | nil => simp at hi
  | cons r rows ih =>
    cases i with
    | zero => simp
    | succ i => simp at hi; simp [ih hi]
theorem flatten_len {α : Type} {rows : List (List α)} {sz : Nat} (hu : ∀ el ∈ rows, el.length = sz) : rows.flatten.length = rows.length * sz := by
  induction rows with
  | nil => simp
  | cons r rows ih =>
    simp only [List.flatten_cons, List.length_append, List.length_cons, ih fun el k => hu el (List.mem_cons_of_mem _ k), hu r List.mem_cons_self]
    rw [Nat.add_mul, Nat.one_mul, Nat.add_comm]
theorem take_len {α : Type} {rows : List (List α)} {sz i : Nat} (hu : ∀ el ∈ rows, el.length = sz) (hi : i ≤ rows.length) : (rows.take i).flatten.length = i * sz := by
  rw [flatten_len fun el k => hu el (List.mem_of_mem_take k)]; simp [Nat.min_eq_left hi]
end Go.Proofs.Ytdgamfanffnhaaa.PI

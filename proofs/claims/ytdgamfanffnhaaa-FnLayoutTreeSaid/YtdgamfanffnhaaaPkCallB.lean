/-
  What is handed over to be read is read so; what is handed over to be written: each part with what it owns, and how it is put back. No condition.
-/
import Derived.Test.YtdgamfanffnhaaaPkCallA
set_option linter.unusedVariables false
set_option linter.unusedSimpArgs false
namespace Go.Proofs.Ytdgamfanffnhaaa.PI
open Go
section
variable {P : Program} {X : Ctx} {rt : Rt} {w w' : World} {R R' : Nat → Prop} {γ γ' : Gm} {h h' : Hp}
theorem Ro.cut_row {rows : List (List PI.C)} {b o off len cap cap' sz : Nat} (H : Ro h R [.rsl rows] [.slice (some ⟨b, o, none⟩) rows.length cap]) (hu : ∀ el ∈ rows, el.length = sz) (hle : off + len ≤ rows.length) (hpos : 0 < len) (hc : len ≤ cap') :
    Ro h R [.rsl (PI.cut off len rows)] [.slice (some ⟨b, o + off * sz, none⟩) len cap'] := by
  have hlen : (PI.cut off len rows).length = len := by simp [PI.cut]; omega
  obtain ⟨_, _, h0 | ⟨b', o', arr, elem, fr, sz', h1, h2, h3, h4, h5, h6, h7⟩⟩ := H.row_inv (.inr rfl)
  · subst h0; simp at hle; omega
  injection h2 with h2; injection h2 with h2 h2' _; subst h2; subst h2'
  have : sz' = sz := by
    obtain ⟨el, hel⟩ := List.exists_mem_of_ne_nil _ h1
    rw [← h5 el hel, hu el hel]
  subst this
  have hle2 : off * sz' + len * sz' ≤ rows.length * sz' := by rw [← Nat.add_mul]; exact Nat.mul_le_mul_right _ hle
  have hu' : ∀ el ∈ PI.cut off len rows, el.length = sz' := fun el k => h5 el (List.mem_of_mem_drop (List.mem_of_mem_take k))
  suffices z : Ro h R [.rsl (PI.cut off len rows)] [.slice (some ⟨b, o + off * sz', none⟩) (PI.cut off len rows).length cap'] by
    rw [hlen] at z; exact z
  refine Ro.row (.inr rfl) (by intro q; rw [q] at hlen; simp at hlen; omega) h3 h4 hu' (by rw [hlen]; omega) (by rw [hlen]; exact hc) ?_ .nil
  have := h7.cut (off * sz') (len * sz')
  rw [cut_cut _ _ _ _ _ hle2] at this
  rw [hlen]
  have e2 : PI.cut (off * sz') (len * sz') rows.flatten = (PI.cut off len rows).flatten := by
    have e3 : rows = rows.take off ++ (PI.cut off len rows ++ (rows.drop off).drop len) := by
      unfold PI.cut; rw [List.take_append_drop, List.take_append_drop]
    conv => lhs; rw [e3]
    rw [List.flatten_append, List.flatten_append]
    have l1 := take_len h5 (i := off) (by omega)
    have l2 : (PI.cut off len rows).flatten.length = len * sz' := by rw [flatten_len hu', hlen]
    unfold PI.cut at l2 ⊢
    rw [List.drop_append, l1, List.drop_eq_nil_of_le (by omega), Nat.sub_self, List.drop_zero, List.nil_append, List.take_append_of_le_length (by omega), List.take_of_length_le (by omega)]
  rw [e2] at this
  exact this
theorem rows_ro (M : Mem X rt w R γ) (hR : ∀ b, R b → R' b) {k : Nat} {rows : List (List PI.C)} (hr : rowsAt (rt k) = some rows) (hk : ∀ r, rt k = some r → ∀ b, Owns (γ k) b r → R' b) :
    Ro (hp w) R' [.rsl rows] [.slice (γ k).addr rows.length (γ k).cap] := by
  cases e : rt k with
  | none => simp [e, rowsAt] at hr
  | some r =>
    have hR0 := M.root k r e
    rw [e] at hr
    cases r with
    | box => simp [rowsAt] at hr
    | dead => simp [rowsAt] at hr
    | row p vs rs foc =>
      simp only [rowsAt, Option.some.injEq] at hr; subst hr
      exact Ro.leaf (rt := rt) (γ := γ) (hR0.1.toRo hR (fun b hb => hk _ e b hb))
    | frow rs =>
      simp only [rowsAt, Option.some.injEq] at hr; subst hr
      exact hR0.1.mono hR fun _ _ => rfl
theorem Own.sub {B : Nat → Prop} {cs : List PI.C} {vs : List Value} (H : Own h R B cs vs) : ∀ {j : Nat} {c : PI.C}, cs[j]? = some c → ∃ x, vs[j]? = some x ∧ Own h R B [c] [x] := by
  induction H with
  | nil => intro j c hj; simp at hj
  | ro a r _ ih =>
    intro j c hj
    cases j with
    | zero => simp at hj; subst hj; exact ⟨_, rfl, .ro a r .nil⟩
    | succ j => simp at hj; obtain ⟨x, h1, h2⟩ := ih hj; exact ⟨x, by simpa using h1, h2⟩
  | e _ ih =>
    intro j c hj
    cases j with
    | zero => simp at hj; subst hj; exact ⟨_, rfl, .e .nil⟩
    | succ j => simp at hj; obtain ⟨x, h1, h2⟩ := ih hj; exact ⟨x, by simpa using h1, h2⟩
  | row a b c' d e f _ n1 _ _ m1 m2 m3 _ ih =>
    intro j c hj
    cases j with
    | zero => simp at hj; subst hj; exact ⟨_, rfl, .row (B2 := fun _ => False) a b c' d e f .nil n1 (fun k => k) (fun _ _ k => k) m1 m2 (fun _ k => k.elim)⟩
    | succ j => simp at hj; obtain ⟨x, h1, h2⟩ := ih hj; exact ⟨x, by simpa using h1, h2.wide m3⟩
theorem snap_ro (M : Mem X rt w R γ) (hR : ∀ b, R b → R' b) {c c' : PI.C} {ks : List Nat} {x : Value} (S : SnapC rt c c' ks) (hx : Leaf (hp w) R rt γ c x) (hk : ∀ k ∈ ks, ∀ r, rt k = some r → ∀ b, Owns (γ k) b r → R' b) : Ro (hp w) R' [c'] [x] := by
  cases S with
  | sc hs => exact .sc (scalar_sc hx hs) .nil
  | nl => have := VR_nil (h := PI.hp w) (R := R) (rt := rt) (γ := γ) hx; subst this; exact .e (.inr rfl) .nil
  | rsl => exact Ro.mono (R := R) hR (fun _ _ => rfl) hx
  | rptr => exact Ro.mono (R := R) hR (fun _ _ => rfl) hx
  | @ref k len rows hr hl =>
    obtain ⟨p, cap, rfl, _, _, hf⟩ := hx
    obtain ⟨e1, e2⟩ := (hf rows hr).2 hl.symm
    subst e1; subst e2; subst hl
    exact rows_ro M hR hr (hk k (by simp))
  | @view k off len tot rows hr hl hle =>
    obtain ⟨p, cap, rfl, hcap, _, _, hf⟩ := hx
    have hro := rows_ro M hR hr (hk k (by simp))
    by_cases hpos : 0 < len
    · obtain ⟨ad, rfl, b, sz, hu, hb, rfl⟩ := (hf rows hr).2 hl.symm hpos
      rw [hb] at hro
      have := hro.cut_row (off := off) (len := len) (cap' := cap) hu (by omega) hpos hcap
      simpa using this
    · have : len = 0 := by omega
      subst this
      have : cut off 0 rows = [] := by simp [cut]
      rw [this]
      exact .e (.inr rfl) .nil
  | @nref k vs i j len p rows foc el rs hr he hrs hl =>
    obtain ⟨p', cap, rfl, _, _, hf⟩ := hx
    obtain ⟨_, hi, b, sz, arr, elem, hu, hj, ha, hb, hv⟩ := (hf _ _ _ _ hr).2 rfl
    obtain ⟨_, ⟨h0, _⟩ | ⟨b', arr', elem', sz', B1, g0, g1, g2, g3, g4, g5, g6, nb, ob, sub⟩⟩ := (M.root k _ hr).1.inv
    · rw [h0] at hi; simp at hi
    rw [ha] at g1; injection g1 with g1; injection g1 with g1 _ _; subst g1
    rw [hb] at g2; injection g2 with g2; injection g2 with g2 _ _; subst g2
    have : sz' = sz := by rw [← g3 el (List.mem_of_getElem? he), hu el (List.mem_of_getElem? he)]
    subst this
    have hfl : (eff rows foc).flatten[i * sz' + j]? = some (.sl rs) := by rw [flat_at hu he hj, hrs]
    obtain ⟨x', hx', ho⟩ := g6.sub hfl
    have hb2 : i * sz' + sz' ≤ (eff rows foc).length * sz' := by rw [← Nat.succ_mul]; exact Nat.mul_le_mul_right _ hi
    rw [List.getElem?_take, if_pos (by omega), hv] at hx'
    injection hx' with hx'; subst hx'
    exact Ro.leaf (c := .sl rs) (rt := rt) (γ := γ) (ho.toRo (R' := R') (fun _ k => k.elim) (fun y hy => hk k (by simp) _ hr y (sub y hy)))
theorem snapCs_ro (M : Mem X rt w R γ) (hR : ∀ b, R b → R' b) {cs cs' : List PI.C} {ks : List Nat} (S : SnapCs rt cs cs' ks) : ∀ {xs : List Value}, Pw (Leaf (hp w) R rt γ) cs xs → (∀ k ∈ ks, ∀ r, rt k = some r → ∀ b, Owns (γ k) b r → R' b) → Ro (hp w) R' cs' xs := by
  induction S with
  | nil => intro xs hx _; cases hx; exact .nil
  | cons a _ ih =>
    intro xs hx hk
    cases hx with
    | cons b t => exact (snap_ro M hR a b fun k hk' => hk k (List.mem_append.2 (.inl hk'))).cons (ih t fun k hk' => hk k (List.mem_append.2 (.inr hk')))
theorem snapV_ro (M : Mem X rt w R γ) (hR : ∀ b, R b → R' b) {v v' : V} {ks : List Nat} (S : SnapV rt v v' ks) {x : Value} (hx : VR (hp w) R rt γ v x) (hk : ∀ k ∈ ks, ∀ r, rt k = some r → ∀ b, Owns (γ k) b r → R' b) : RoV (hp w) R' v' x := by
  cases S with
  | one a => exact snap_ro M hR a hx hk
  | agg a => obtain ⟨arr, e, p⟩ := hx; exact ⟨arr, e, snapCs_ro M hR a p hk⟩
def Piece (h : Hp) (rt : Rt) (γ : Gm) (F G : Nat → Prop) : Take → C → Value → Prop
  | .row k par vs, c, x => ∃ rows foc, rt k = some (.row par vs rows foc) ∧ c = .sl (eff rows foc) ∧ x = .slice (γ k).addr (eff rows foc).length (γ k).cap ∧ (∀ b, F b ↔ (γ k).own b) ∧ (∀ b, ¬ G b)
  | .nrow k par vs base i el j, c, x => ∃ rows foc rs, rt k = some (.row par vs rows foc) ∧ (eff rows foc)[i]? = some el ∧ (∀ new, base.set i new = (eff rows foc).set i new) ∧ base.length = rows.length ∧ el[j]? = some (.sl rs) ∧ c = .sl rs ∧
      Own h (fun _ => False) F [.sl rs] [x] ∧ (∀ b, F b → (γ k).own b) ∧ (∀ b, G b → (γ k).own b) ∧ (∀ b, F b → ¬ G b) ∧ (∃ b, (γ k).addr = some ⟨b, 0, none⟩ ∧ G b) ∧
      ∀ (h' : Hp) (F' B' : Nat → Prop) (rs' : List (List C)), (∀ b, G b → h' b = h b) → Own h' (fun _ => False) F' [.sl rs'] [x] → (∀ b, F' b → ¬ G b) → (∀ b, F' b → B' b) → (∀ b, G b → B' b) →
        Own h' (fun _ => False) B' [.sl ((eff rows foc).set i (el.set j (.sl rs')))] [.slice (γ k).addr (eff rows foc).length (γ k).cap]
  | .box k par cells, c, x => rt k = some (.box par cells) ∧ c = .pt cells ∧ cells.all C.plainRo = true ∧ (∃ b, (γ k).addr = some ⟨b, 0, none⟩ ∧ x = .pointer (some ⟨b, 0, none⟩)) ∧ (∀ b, F b ↔ (γ k).own b) ∧ (∀ b, ¬ G b)
theorem set_mid {α : Type} {l : List α} {j : Nat} {c c' : α} (hj : l[j]? = some c) : l = l.take j ++ (c :: l.drop (j + 1)) ∧ l.set j c' = l.take j ++ (c' :: l.drop (j + 1)) := by
  have hlt := lt_of_at hj
  constructor
  · conv => lhs; rw [← List.take_append_drop j l]
    rw [List.drop_eq_getElem_cons hlt]; congr 2
    rw [List.getElem?_eq_getElem hlt] at hj; injection hj
  · rw [List.set_eq_take_append_cons_drop, if_pos hlt]
theorem nrow_piece (M : Mem X rt w R γ) {k vs i j len : Nat} {par : Bool} {rows base : List (List PI.C)} {foc : Option (Nat × List PI.C)} {el : List PI.C} {rs : List (List PI.C)} {x : Value} (hr : rt k = some (.row par vs rows foc)) (he : (eff rows foc)[i]? = some el)
    (hbase : ∀ new, base.set i new = (eff rows foc).set i new) (hbl : base.length = rows.length) (hrs : el[j]? = some (.sl rs)) (hx : Leaf (hp w) R rt γ (.nref k vs i j len) x) : ∃ F G, Piece (hp w) rt γ F G (.nrow k par vs base i el j) (.sl rs) x := by
  obtain ⟨p', cap, rfl, _, _, hf⟩ := hx
  obtain ⟨_, hi, b, sz, arr, elem, hu, hj, ha, hb, hv⟩ := (hf _ _ _ _ hr).2 rfl
  obtain ⟨_, ⟨h0, _⟩ | ⟨b', arr', elem', sz', B1, g0, g1, g2, g3, g4, g5, g6, nb, ob, sub⟩⟩ := (M.root k _ hr).1.inv
  · rw [h0] at hi; simp at hi
  rw [ha] at g1; injection g1 with g1; injection g1 with g1 _ _; subst g1
  rw [hb] at g2; injection g2 with g2; injection g2 with g2 _ _; subst g2
  have s1 := hu el (List.mem_of_getElem? he)
  have : sz' = sz := by rw [← g3 el (List.mem_of_getElem? he), s1]
  subst this
  have hb2 : i * sz' + sz' ≤ (eff rows foc).length * sz' := by rw [← Nat.succ_mul]; exact Nat.mul_le_mul_right _ hi
  have hb3 : (eff rows foc).length * sz' ≤ arr.size := by rw [g5]; exact Nat.mul_le_mul_right _ g4
  have hflat : (eff rows foc).flatten = (((eff rows foc).take i).flatten ++ el.take j) ++ ([PI.C.sl rs] ++ (el.drop (j + 1) ++ ((eff rows foc).drop (i + 1)).flatten)) := by
    rw [flatten_at he]
    conv => lhs; rw [(set_mid (c' := PI.C.sl rs) hrs).1]
    simp [List.append_assoc]
  have hflat' : ∀ rs', ((eff rows foc).set i (el.set j (.sl rs'))).flatten = (((eff rows foc).take i).flatten ++ el.take j) ++ ([PI.C.sl rs'] ++ (el.drop (j + 1) ++ ((eff rows foc).drop (i + 1)).flatten)) := by
    intro rs'
    rw [flatten_set he, (set_mid (c' := PI.C.sl rs') hrs).2]
    simp [List.append_assoc]
  have hpre : (((eff rows foc).take i).flatten ++ el.take j).length = i * sz' + j := by
    rw [List.length_append, take_len g3 (by omega), List.length_take, s1]; omega
  have hfl : (eff rows foc).flatten[i * sz' + j]? = some (.sl rs) := by rw [flat_at hu he hj, hrs]
  rw [hflat] at g6
  obtain ⟨C1, C2, v1, v2, v3, hval, lv1, o1, dj, m1, m2, lv3, put⟩ := g6.part
  have lv2 : v2.length = 1 := by rw [← o1.len]; rfl
  obtain ⟨y, rfl⟩ : ∃ y, v2 = [y] := by
    cases v2 with
    | nil => simp at lv2
    | cons y t => cases t with
      | nil => exact ⟨y, rfl⟩
      | cons => simp at lv2
  have hy : y = .slice p' len cap := by
    have e1 : (v1 ++ ([y] ++ v3))[i * sz' + j]? = some y := by
      rw [List.getElem?_append_right (by omega), ← lv1, hpre]; simp
    rw [← hval, List.getElem?_take, if_pos (by omega), hv] at e1
    injection e1 with e1; exact e1.symm
  subst hy
  refine ⟨C1, fun z => z = b ∨ C2 z, rows, foc, rs, hr, he, hbase, hbl, hrs, rfl, o1, fun z hz => sub z (m1 z hz), ?_, ?_, ⟨b, ha, .inl rfl⟩, ?_⟩
  · rintro z (rfl | hz)
    · exact ob
    · exact sub z (m2 z hz)
  · rintro z hz (rfl | hz2)
    · exact nb (m1 z hz)
    · exact dj z hz hz2
  · intro h' F' B' rs' hh hown hd hB1 hB2
    have fin := put h' (fun _ => False) F' (fun z => F' z ∨ C2 z) [.sl rs'] [.slice p' len cap] (fun _ h => h) (fun _ h => h.elim) (fun z hz => hh z (.inr hz)) hown (fun z hz hz2 => hd z hz (.inr hz2)) (fun _ h => .inl h) (fun _ h => .inr h)
    rw [← hflat', ← hval] at fin
    have hlen : ((eff rows foc).set i (el.set j (.sl rs'))).length = (eff rows foc).length := by simp
    rw [ha]
    suffices z : Own h' (fun _ => False) B' [.sl ((eff rows foc).set i (el.set j (.sl rs')))] [.slice (some ⟨b, 0, none⟩) ((eff rows foc).set i (el.set j (.sl rs'))).length (γ k).cap] by
      rw [hlen] at z; exact z
    refine .row (B2 := fun _ => False) (sz := sz') ?_ ((hh b (.inl rfl)).trans hb) ?_ (by rw [hlen]; exact g4) g5 (by rw [hlen]; exact fin) .nil ?_ (fun h => h) (fun _ _ h => h) (hB2 b (.inl rfl)) ?_ (fun _ h => h.elim)
    · intro h0; rw [h0] at hlen; simp at hlen; rw [← hlen] at hi; simp at hi
    · intro z hz
      rcases List.mem_or_eq_of_mem_set hz with q | q
      · exact g3 z q
      · rw [q]; simpa using s1
    · rintro (q | q)
      · exact hd b q (.inl rfl)
      · exact nb (m2 b q)
    · rintro z (q | q)
      · exact hB1 z q
      · exact hB2 z (.inr q)
end
end Go.Proofs.Ytdgamfanffnhaaa.PI

/-
  Runs of the machine's own steps on rows of cells, told by what lies in the blocks. No condition.
-/
import Derived.Test.YtdgamfanffnhaaaPkUpd
import Derived.Laws.Entries
import Derived.Laws.Cells
set_option linter.unusedVariables false
set_option linter.unusedSimpArgs false
namespace Go.Proofs.Ytdgamfanffnhaaa.PI
open Go
variable {P : Program}
theorem hp_cell {w : World} {b : Nat} {arr : Array Value} {elem : TypeId} {fr : Nat × Nat} (h : hp w b = some (.cells arr elem fr)) (o : Nat) : w.cell? ⟨b, o, none⟩ = arr.toList[o]? := by
  have h' : w.heap[b]? = some (.cells arr elem fr) := h
  simp [World.cell?, h']
theorem add_none (b o n : Nat) : Addr.add ⟨b, o, none⟩ n = ⟨b, o + n, none⟩ := by
  unfold Addr.add; split <;> simp_all
theorem run_load_row {w : World} {b o n : Nat} {arr : Array Value} {elem : TypeId} {fr : Nat × Nat} (h : hp w b = some (.cells arr elem fr)) (hn : o + n ≤ arr.size) :
    (loadCells ⟨b, o, none⟩ n).run P w = .ok (cut o n arr.toList).toArray w := by
  have hl : (cut o n arr.toList).length = n := by simp [cut]; omega
  have := run_loadCells_list (P := P) (w := w) ⟨b, o, none⟩ (cut o n arr.toList) (fun j v hv => by
    rw [add_none, hp_cell h]
    simp only [cut, List.getElem?_take, List.getElem?_drop] at hv
    split at hv
    · exact hv
    · cases hv)
  rwa [hl] at this
theorem run_load_cell {w : World} {b o : Nat} {v : Value} {arr : Array Value} {elem : TypeId} {fr : Nat × Nat} (h : hp w b = some (.cells arr elem fr)) (hv : arr.toList[o]? = some v) :
    (load ⟨b, o, none⟩).run P w = .ok v w := by
  have := hp_cell h o
  simp [load, Sem.run, this, hv]
theorem run_store_cell {w : World} {b o : Nat} {v : Value} {arr : Array Value} {elem : TypeId} (h : hp w b = some (.cells arr elem (0, 0))) (ho : o < arr.size) (hv : v.oneCell' = true) :
    (store ⟨b, o, none⟩ v).run P w = .ok () { w with heap := w.heap.setIfInBounds b (.cells (arr.setIfInBounds o v) elem (0, 0)) } := by
  have h1 : w.cell? ⟨b, o, none⟩ = some arr[o] := by rw [hp_cell h]; simp [ho]
  have h' : w.heap[b]? = some (.cells arr elem (0, 0)) := h
  have h2 : w.frozen? ⟨b, o, none⟩ = false := by simp [World.frozen?, h']
  have h3 : w.setCell ⟨b, o, none⟩ v = { w with heap := w.heap.setIfInBounds b (.cells (arr.setIfInBounds o v) elem (0, 0)) } := by
    have hb : b < w.heap.size := by
      rcases Nat.lt_or_ge b w.heap.size with k | k
      · exact k
      · simp [Array.getElem?_eq_none k] at h'
    have h4 : w.heap[b] = .cells arr elem (0, 0) := by simpa [Array.getElem?_eq_getElem hb] using h'
    simp only [World.setCell]
    congr 1
    apply Array.ext_getElem?
    intro i
    rw [Array.getElem?_modify]
    by_cases e : b = i
    · subst e; simp [hb, h4]
    · rw [Array.getElem?_setIfInBounds_ne e]; simp [e]
  rw [run_store P w _ v _ hv, h1, h2, h3]; simp
theorem run_store_row {b : Nat} {elem : TypeId} : ∀ (vs : List Value) (o i : Nat) (w : World) (arr : Array Value), hp w b = some (.cells arr elem (0, 0)) → o + i + vs.length ≤ arr.size → (∀ v ∈ vs, v.oneCell' = true) →
    ∃ w' arr', (storeCells ⟨b, o, none⟩ vs i).run P w = .ok () w' ∧ hp w' b = some (.cells arr' elem (0, 0)) ∧ arr'.toList = arr.toList.take (o + i) ++ (vs ++ arr.toList.drop (o + i + vs.length)) ∧
      (∀ x, x ≠ b → hp w' x = hp w x) ∧ World.alike w w' ∧ w'.heap.size = w.heap.size
  | [], o, i, w, arr, h, _, _ => ⟨w, arr, rfl, h, by simp, fun _ _ => rfl, .refl w, rfl⟩
  | v :: vs, o, i, w, arr, h, hl, hv => by
    simp only [List.length_cons] at hl
    have h1 := run_store_cell (P := P) h (o := o + i) (by omega) (hv v (by simp))
    have hb : b < w.heap.size := by
      rcases Nat.lt_or_ge b w.heap.size with k | k
      · exact k
      · have h' : w.heap[b]? = some (.cells arr elem (0, 0)) := h
        simp [Array.getElem?_eq_none k] at h'
    obtain ⟨w', arr', r, hb', he, hx, al, hs⟩ := run_store_row vs o (i + 1) { w with heap := w.heap.setIfInBounds b (.cells (arr.setIfInBounds (o + i) v) elem (0, 0)) } (arr.setIfInBounds (o + i) v)
      (by show (w.heap.setIfInBounds b _)[b]? = _; rw [Array.getElem?_setIfInBounds_self_of_lt hb]) (by simp; omega) (fun x k => hv x (by simp [k]))
    refine ⟨w', arr', ?_, hb', ?_, ?_, ⟨al.tape, al.os, al.output, by simpa using al.size⟩, by simpa using hs⟩
    · simp only [storeCells, add_none, Sem.run_bind, h1, Result.andThen_ok]
      exact r
    · rw [he]
      have hlt : o + i < arr.toList.length := by simp; omega
      simp only [Array.toList_setIfInBounds, List.length_cons]
      have e1 : (arr.toList.set (o + i) v).take (o + (i + 1)) = arr.toList.take (o + i) ++ [v] := by
        rw [show o + (i + 1) = (o + i) + 1 by omega, List.take_add_one, List.take_set_of_le (Nat.le_refl _), List.getElem?_set_self hlt]; rfl
      have e2 : (arr.toList.set (o + i) v).drop (o + (i + 1) + vs.length) = arr.toList.drop (o + i + (vs.length + 1)) := by
        rw [List.drop_set_of_lt (by omega)]
        congr 1; omega
      rw [e1, e2]; simp
    · intro x hne
      rw [hx x hne]
      show (w.heap.setIfInBounds b _)[x]? = w.heap[x]?
      exact Array.getElem?_setIfInBounds_ne (Ne.symm hne)
theorem run_new {w : World} {elem : TypeId} {cs : Array Value} : (newRow elem cs).run P w = .ok ⟨w.heap.size, 0, none⟩ { w with heap := w.heap.push (.cells cs elem) } := by
  simp [newRow, newObj, Sem.run]
theorem hp_push_lt {w : World} {o : Obj} {b : Nat} (hb : b < w.heap.size) : hp { w with heap := w.heap.push o } b = hp w b := by
  simp [hp, Array.getElem?_push, Nat.ne_of_lt hb]
theorem hp_push_eq {w : World} {o : Obj} : hp { w with heap := w.heap.push o } w.heap.size = some o := by
  simp [hp]
theorem alike_push {w : World} {o : Obj} : World.alike w { w with heap := w.heap.push o } := ⟨rfl, rfl, rfl, by simp⟩
theorem run_typeInfo {w : World} {t : TypeId} {i : TypeInfo} (h : P.info? t = some i) : (typeInfo t).run P w = .ok i w := by
  simp [typeInfo, h]
theorem run_sizeOf {w : World} {t : TypeId} {i : TypeInfo} (h : P.info? t = some i) : (sizeOf t).run P w = .ok i.size w := by
  simp [sizeOf, run_typeInfo h]
theorem run_zero {w : World} {t : TypeId} {i : TypeInfo} {z : Value} (h : P.info? t = some i) (hz : i.zero = some z) : (zeroValue t).run P w = .ok z w := by
  simp [zeroValue, run_typeInfo h, hz]
def aggOf : TypeDesc → Bool
  | .struct _ | .array _ _ => true
  | _ => false
theorem run_isAgg {w : World} {t : TypeId} {d : TypeDesc} (h : P.underlying t = some d) : (isAgg t).run P w = .ok (aggOf d) w := by
  simp only [isAgg, Sem.run_bind, run_underlying h, Result.andThen_ok]
  cases d <;> rfl
end Go.Proofs.Ytdgamfanffnhaaa.PI

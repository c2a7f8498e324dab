/- A range over a map, told as a list of what is left. Nothing of the program stands here. -/
import Derived.Test.YtigdbooadelciaaGreatMp
import Derived.Maps.RangeRun
import Derived.Maps.Range
namespace Go.Proofs.YtigdbooadelciaaGreat
set_option linter.unusedVariables false
set_option linter.unusedSimpArgs false
open Go.RowKit Go.Maps
variable {κ : Type}

/-- The iterator at block r goes over the map at block b, whose entries are m; left are still to come. -/
def IterAt (w : World) (b r : Nat) (kv : κ → Value) (m left : List (κ × Value)) : Prop :=
  ∃ (es : Array MapEntry) (clock since : Nat) (seen : Array Nat) (c0 : Nat) (L : List (MapEntry × (κ × Value))),
    w.heap[b]? = some (.map es clock) ∧ L.map (·.1) = es.toList ∧ L.map (·.2) = m ∧ (∀ x ∈ L, x.1.key = kv x.2.1 ∧ x.1.val = x.2.2) ∧ (m.map (·.1)).Nodup ∧ (es.toList.map (·.born)).Nodup ∧ (∀ e ∈ es.toList, e.born < clock) ∧
    w.heap[r]? = some (.mapIter (some b) since seen c0) ∧ (∀ e ∈ es.toList, e.born < since) ∧ since ≤ c0 ∧ since ≤ clock ∧ left = (L.filter fun x => !seen.contains x.1.born).map (·.2)

theorem IterAt.map {w : World} {b r : Nat} {kv : κ → Value} {m left : List (κ × Value)} (h : IterAt w b r kv m left) : MapAt w b kv m := by
  obtain ⟨es, clock, since, seen, c0, L, hb, h1, h2, h3, h4, h5, h6, _⟩ := h
  refine ⟨es, clock, hb, ?_, h4, h5, h6⟩
  rw [← h1, ← h2, List.map_map, List.map_map]
  refine List.map_congr_left fun x hx => ?_
  simp [(h3 x hx).1, (h3 x hx).2]

theorem IterAt.lt {w : World} {b r : Nat} {kv : κ → Value} {m left : List (κ × Value)} (h : IterAt w b r kv m left) : r < w.heap.size := by
  obtain ⟨es, clock, since, seen, c0, L, hb, h1, h2, h3, h4, h5, h6, hr, _⟩ := h
  exact (Array.getElem?_eq_some_iff.1 hr).1

theorem IterAt.ne {w : World} {b r : Nat} {kv : κ → Value} {m left : List (κ × Value)} (h : IterAt w b r kv m left) : r ≠ b := by
  obtain ⟨es, clock, since, seen, c0, L, hb, h1, h2, h3, h4, h5, h6, hr, _⟩ := h
  rintro rfl
  rw [hb] at hr
  cases hr

theorem IterAt.of_blocks {w w' : World} {b r : Nat} {kv : κ → Value} {m left : List (κ × Value)} (h : IterAt w b r kv m left) (hb : w'.heap[b]? = w.heap[b]?) (hr : w'.heap[r]? = w.heap[r]?) : IterAt w' b r kv m left := by
  obtain ⟨es, clock, since, seen, c0, L, h0, h1, h2, h3, h4, h5, h6, h7, h8⟩ := h
  exact ⟨es, clock, since, seen, c0, L, hb.trans h0, h1, h2, h3, h4, h5, h6, hr.trans h7, h8⟩

theorem IterAt.kp {S : Nat → Prop} {w w' : World} {b r : Nat} {kv : κ → Value} {m left : List (κ × Value)} (h : IterAt w b r kv m left) (k : Kp S w w') (hb : ¬ S b) (hr : ¬ S r) : IterAt w' b r kv m left :=
  h.of_blocks (k.block b h.map.lt hb) (k.block r h.lt hr)

variable {P : Program}

theorem MapAt.range {w : World} {b : Nat} {kv : κ → Value} {m : List (κ × Value)} {t k e : TypeId} (h : MapAt w b kv m) (ht : P.underlying t = some (.map k e)) :
    ∃ w', (Instr.range t (.map (some b))).run P w = .ok (.pointer (some ⟨w.heap.size, 0, none⟩)) w' ∧ IterAt w' b w.heap.size kv m m ∧ Kp (fun _ => False) w w' ∧ w'.heap.size = w.heap.size + 1 := by
  have hlt := h.lt
  obtain ⟨es, clock, hb, h1, h2, h3, h4⟩ := h
  have hlen : es.toList.length = m.length := by have := congrArg List.length h1; simpa using this
  refine ⟨_, run_range_map w t k e b es clock ht hb, ⟨es, clock, clock, #[], clock, es.toList.zip m, ((MapKept.heap_alloc w _).2 b hlt).trans hb, List.map_fst_zip (by omega), List.map_snd_zip (by omega), ?_, h2, h3, h4, (MapKept.heap_alloc w _).1, h4, Nat.le_refl _, Nat.le_refl _, ?_⟩, (Kp.refl _ w).alloc _, by simp⟩
  · intro x hx
    obtain ⟨i, hi, rfl⟩ := List.mem_iff_getElem.1 hx
    simp only [List.length_zip] at hi
    have := congrArg (fun l => l[i]?) h1
    simp [show i < es.size by simp at hlen; omega, show i < m.length by omega] at this
    simp [this.1, this.2]
  · rw [List.filter_eq_self.2 (by simp), List.map_snd_zip (by omega)]

theorem perm_out {α : Type} {f : α → Nat} : ∀ {l : List α} {x : α}, (l.map f).Nodup → x ∈ l → l.Perm (x :: l.filter fun y => !(f y == f x))
  | y :: l, x, hn, hx => by
    simp only [List.map_cons, List.nodup_cons] at hn
    rcases List.mem_cons.1 hx with rfl | hx
    · have : l.filter (fun y => !(f y == f x)) = l := by
        rw [List.filter_eq_self]
        intro z hz
        have : f z ≠ f x := fun e => hn.1 (e ▸ List.mem_map_of_mem hz)
        simpa using this
      simp [this]
    · have hne : f y ≠ f x := fun e => hn.1 (e ▸ List.mem_map_of_mem hx)
      have ih := perm_out hn.2 hx
      rw [List.filter_cons, if_pos (by simpa using hne)]
      exact (List.Perm.cons y ih).trans (List.Perm.swap x y _)

/-- The step. -/
theorem IterAt.next {w : World} {b r : Nat} {kv : κ → Value} {m left : List (κ × Value)} (h : IterAt w b r kv m left) (ty : TypeId) :
    (left = [] ∧ (Instr.next (.pointer (some ⟨r, 0, none⟩)) false ty).run P w = .ok (.tuple #[.bool false]) w) ∨
    ∃ p left' w', left.Perm (p :: left') ∧ (Instr.next (.pointer (some ⟨r, 0, none⟩)) false ty).run P w = .ok (.tuple #[.bool true, kv p.1, p.2]) w' ∧
      IterAt w' b r kv m left' ∧ Kp (fun i => i = r) w w' ∧ w'.heap.size = w.heap.size ∧ (Instr.entry (.pointer (some ⟨r, 0, none⟩))).run P w' = .ok (.tuple #[kv p.1, p.2]) w' := by
  have hne := h.ne
  obtain ⟨es, clock, since, seen, c0, L, hb, h1, h2, h3, h4, h5, h6, hr, hold, hsc, hsk, rfl⟩ := h
  have hlo : (leftOf es seen).toList = (L.filter fun x => !seen.contains x.1.born).map (·.1) := by
    unfold leftOf
    rw [Array.toList_filter, ← h1, List.filter_map]
    rfl
  rcases run_next_at (P := P) w ty r b since c0 seen es clock hr hb hold hsc with ⟨h0, hrun⟩ | ⟨e, he, w1, hal, hrun⟩
  · refine Or.inl ⟨?_, hrun⟩
    have : (leftOf es seen).toList.length = 0 := by simpa using h0
    rw [hlo, List.length_map] at this
    rw [List.eq_nil_of_length_eq_zero this]
    rfl
  · rw [hlo] at he
    obtain ⟨x, hx, rfl⟩ := List.mem_map.1 he
    have hxL : x ∈ L := (List.mem_filter.1 hx).1
    have hem : x.1 ∈ es.toList := by rw [← h1]; exact List.mem_map_of_mem hxL
    have hr1 : w1.heap[r]? = some (.mapIter (some b) since seen c0) := by rcases hal with rfl | rfl <;> exact hr
    have hb1 : w1.heap[b]? = some (.map es clock) := by rcases hal with rfl | rfl <;> exact hb
    obtain ⟨hset, hoth⟩ := MapKept.heap_set (o' := .mapIter (some b) since (seen.push x.1.born) clock) hr1
    have hborn : ((L.filter fun x => !seen.contains x.1.born).map fun x => x.1.born).Nodup := by
      refine List.Nodup.sublist ((List.filter_sublist).map _) ?_
      have : L.map (fun x => x.1.born) = es.toList.map (·.born) := by rw [← h1, List.map_map]; rfl
      rw [this]
      exact h5
    refine Or.inr ⟨x.2, ((L.filter fun x => !seen.contains x.1.born).filter fun y => !(y.1.born == x.1.born)).map (·.2), ChangeMaps.setBlock w1 r (.mapIter (some b) since (seen.push x.1.born) clock), ?_, ?_, ⟨es, clock, since, seen.push x.1.born, clock, L, (hoth b (fun e1 => hne e1.symm)).trans hb1, h1, h2, h3, h4, h5, h6, hset, hold, hsk, hsk, ?_⟩, ?_, ?_, ?_⟩
    · exact (perm_out (f := fun x : MapEntry × (κ × Value) => x.1.born) hborn hx).map (·.2)
    · rw [hrun, (h3 x hxL).1, (h3 x hxL).2]
    · rw [List.filter_filter]
      congr 1
      refine List.filter_congr fun y _ => ?_
      rw [contains_push]
      cases seen.contains y.1.born <;> cases (y.1.born == x.1.born) <;> rfl
    · rcases hal with rfl | rfl <;> exact ⟨rfl, rfl, rfl, by simp [ChangeMaps.setBlock], fun i _ hi => hoth i hi⟩
    · rcases hal with rfl | rfl <;> simp [ChangeMaps.setBlock]
    · have := run_entry_at (P := P) (ChangeMaps.setBlock w1 r (.mapIter (some b) since (seen.push x.1.born) clock)) r b since seen es clock x.1 hset ((hoth b (fun e1 => hne e1.symm)).trans hb1) hem h5
      rw [(h3 x hxL).1, (h3 x hxL).2] at this
      exact this
end Go.Proofs.YtigdbooadelciaaGreat

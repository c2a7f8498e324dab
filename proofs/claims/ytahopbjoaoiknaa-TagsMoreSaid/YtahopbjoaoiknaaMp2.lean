/- 'x, m[k] = y, z' at a key that is not there: the entry is made first, its value laid later. Nothing of the program stands here. -/
import Derived.Test.YtahopbjoaoiknaaMp
namespace Go.Proofs.Ytahopbjoaoiknaa
set_option linter.unusedVariables false
set_option linter.unusedSimpArgs false
open Go.RowKit
variable {κ : Type} {P : Program} {k : TypeId} {kv : κ → Value}

/-- Block b is a map with these entries and a last one, born as c. -/
def MidMap (w : World) (b : Nat) (kv : κ → Value) (m : List (κ × Value)) (a : κ) (z : Value) (c : Nat) : Prop :=
  ∃ es : Array MapEntry, w.heap[b]? = some (.map (es.push { key := kv a, val := z, born := c }) (c + 1)) ∧ es.toList.map (fun e => (e.key, e.val)) = m.map (fun p => (kv p.1, p.2)) ∧ (m.map (·.1)).Nodup ∧ (es.toList.map (·.born)).Nodup ∧ (∀ e ∈ es.toList, e.born < c) ∧ ∀ p ∈ m, p.1 ≠ a
theorem MidMap.of_block {w w' : World} {b : Nat} {m : List (κ × Value)} {a : κ} {z : Value} {c : Nat} (h : MidMap w b kv m a z c) (he : w'.heap[b]? = w.heap[b]?) : MidMap w' b kv m a z c := by
  obtain ⟨es, h1, r⟩ := h
  exact ⟨es, he.trans h1, r⟩
theorem modify_last {α : Type} (f : α → α) (x : α) : ∀ l : List α, (l ++ [x]).modify l.length f = l ++ [f x]
  | [] => rfl
  | y :: l => by simp [modify_last f x l]
variable [DecidableEq κ]
theorem MapAt.entry {w : World} {b : Nat} {m : List (κ × Value)} (h : MapAt w b kv m) (K : KeyOk P k kv) {t e : TypeId} (ht : P.underlying t = some (.map k e)) {z : Value} (hz : ∀ w, (zeroValue e).run P w = .ok z w) (a : κ) (hn : ∀ p ∈ m, p.1 ≠ a) :
    ∃ (w' : World) (c : Nat), (Instr.mapEntry t (.map (some b)) (kv a)).run P w = .ok (.tuple #[z, .int .i64 c]) w' ∧ MidMap w' b kv m a z c ∧ Kp (fun g => g = b) w w' ∧ w'.heap.size = w.heap.size := by
  obtain ⟨es, clock, hb, hm, hnd, hbn, hlt⟩ := h
  obtain ⟨d, hd, hs, hck⟩ := K.desc
  have hf := run_findKey K a es.toList m hm w
  have hj : m.findIdx? (fun p => decide (p.1 = a)) = none := by
    rw [List.findIdx?_eq_none_iff]
    intro p hp
    simpa using hn p hp
  rw [hj] at hf
  refine ⟨ChangeMaps.setBlock w b (.map (es.push { key := kv a, val := z, born := clock }) (clock + 1)), clock, ?_, ⟨es, ChangeMaps.heap_setBlock_same hb _, hm, hnd, hbn, hlt, hn⟩, ⟨rfl, rfl, rfl, by simp [ChangeMaps.setBlock], fun i _ hi => ChangeMaps.heap_setBlock_other hb _ (fun e => hi (by rw [e]))⟩, by simp [ChangeMaps.setBlock]⟩
  simp [Instr.mapEntry, run_underlying ht, MapKept.run_getObj_map hb, hck, hf, hz, MapKept.run_setObj_map _ hb, ChangeMaps.setBlock, Result.andThen, goInt]
omit [DecidableEq κ] in
theorem MidMap.store {w : World} {b : Nat} {m : List (κ × Value)} {a : κ} {z : Value} {c : Nat} (h : MidMap w b kv m a z c) (t : TypeId) (v : Value) :
    ∃ w' : World, (Instr.entryStore t (.map (some b)) (.int .i64 c) v).run P w = .ok () w' ∧ MapAt w' b kv (m ++ [(a, v)]) ∧ Kp (fun g => g = b) w w' ∧ w'.heap.size = w.heap.size := by
  obtain ⟨es, hb, hm, hnd, hbn, hlt, hn⟩ := h
  have hidx : (es.push { key := kv a, val := z, born := c }).findIdx? (fun e => (e.born : Int) == (c : Int)) = some es.size := by
    rw [Array.findIdx?_eq_some_iff_getElem]
    refine ⟨by simp, by simp, fun j hj => ?_⟩
    rw [Array.getElem_push_lt hj]
    have := hlt es[j] (by simp)
    simp
    omega
  have hmod : (es.push { key := kv a, val := z, born := c }).modify es.size (fun e => { e with val := v }) = es.push { key := kv a, val := v, born := c } := by
    apply Array.ext'
    rw [Array.toList_modify, Array.toList_push, show es.size = es.toList.length by simp, modify_last]
    simp
  refine ⟨ChangeMaps.setBlock w b (.map (es.push { key := kv a, val := v, born := c }) (c + 1)), ?_, ⟨_, _, ChangeMaps.heap_setBlock_same hb _, ?_, ?_, ?_, ?_⟩, ⟨rfl, rfl, rfl, by simp [ChangeMaps.setBlock], fun i _ hi => ChangeMaps.heap_setBlock_other hb _ (fun e => hi (by rw [e]))⟩, by simp [ChangeMaps.setBlock]⟩
  · simp [Instr.entryStore, MapKept.run_getObj_map hb, asInt, asIntOf, hidx, hmod, MapKept.run_setObj_map _ hb, ChangeMaps.setBlock, Result.andThen]
  · simp [hm]
  · rw [List.map_append, List.nodup_append]
    refine ⟨hnd, by simp, fun x hx y hy => ?_⟩
    obtain ⟨p, hp, rfl⟩ := List.mem_map.1 hx
    simp at hy
    subst hy
    exact hn p hp
  · simp only [Array.toList_push, List.map_append, List.map_cons, List.map_nil]
    rw [List.nodup_append]
    refine ⟨hbn, by simp, fun x hx y hy => ?_⟩
    obtain ⟨e, he, rfl⟩ := List.mem_map.1 hx
    simp at hy
    have := hlt e he
    omega
  · intro e he
    simp only [Array.toList_push, List.mem_append, List.mem_singleton] at he
    rcases he with he | rfl
    · have := hlt e he; omega
    · simp
end Go.Proofs.Ytahopbjoaoiknaa

/- Maps, as lists of keys and values: what a look-up, a store, a delete and len do. Nothing of the program stands here. -/
import Derived.Test.YtahopbjoaoiknaaOwn
import Derived.Maps.Keyed
import Derived.OwnWalk
import Derived.Carry
namespace Go.Proofs.Ytahopbjoaoiknaa
set_option linter.unusedVariables false
set_option linter.unusedSimpArgs false
open Go.RowKit

/-- A key's kind, as the model compares keys. -/
structure KeyOk (P : Program) (k : TypeId) {κ : Type} [DecidableEq κ] (kv : κ → Value) : Prop where
  desc : ∃ d, P.underlying k = some d ∧ (∀ a b, Instr.sameNow d (kv a) (kv b) = some (decide (a = b))) ∧ ∀ bb n v w, (Instr.checkKey bb (n + 1) k v).run P w = .ok () w
  bits : ∀ a, Instr.sameBits 10000 (kv a) (kv a) = true

theorem keyOk_int {P : Program} {k : TypeId} {q : IntKind} (h : P.underlying k = some (.int q)) : KeyOk P k (fun n : Int => Value.int q n) :=
  ⟨⟨_, h, fun a b => by simp [Instr.sameNow, BEq.beq], fun bb n v w => by simp [Instr.checkKey, run_underlying h]⟩, fun a => by simp [Instr.sameBits]⟩

theorem beq_dec (a b : ByteArray) : (a == b) = decide (a = b) := by
  cases a
  cases b
  rename_i a b
  have : (ByteArray.mk a == ByteArray.mk b) = (a == b) := rfl
  rw [this, Bool.eq_iff_iff, decide_eq_true_iff, beq_iff_eq]
  simp

theorem keyOk_string {P : Program} {k : TypeId} (h : P.underlying k = some .string) : KeyOk P k (fun s : ByteArray => Value.string s) :=
  ⟨⟨_, h, fun a b => by simp [Instr.sameNow, beq_dec], fun bb n v w => by simp [Instr.checkKey, run_underlying h]⟩, fun a => by simp [Instr.sameBits, beq_dec]⟩

section
variable {κ : Type}
section
variable [DecidableEq κ]
def lookM (m : List (κ × Value)) (a : κ) : Option Value := (m.find? fun p => decide (p.1 = a)).map (·.2)
def putM (m : List (κ × Value)) (a : κ) (v : Value) : List (κ × Value) := if m.any (fun p => decide (p.1 = a)) then m.map (fun p => if p.1 = a then (a, v) else p) else m ++ [(a, v)]
def delM (m : List (κ × Value)) (a : κ) : List (κ × Value) := m.filter fun p => decide (p.1 ≠ a)
end

/-- Block b of w is a map with these entries, in the order of their births. -/
def MapAt (w : World) (b : Nat) (kv : κ → Value) (m : List (κ × Value)) : Prop :=
  ∃ es clock, w.heap[b]? = some (.map es clock) ∧ es.toList.map (fun e => (e.key, e.val)) = m.map (fun p => (kv p.1, p.2)) ∧ (m.map (·.1)).Nodup ∧
    (es.toList.map (·.born)).Nodup ∧ ∀ e ∈ es.toList, e.born < clock

theorem MapAt.lt {w : World} {b : Nat} {kv : κ → Value} {m : List (κ × Value)} (h : MapAt w b kv m) : b < w.heap.size := by
  obtain ⟨es, clock, hb, _⟩ := h
  exact (Array.getElem?_eq_some_iff.1 hb).1

theorem MapAt.of_block {w w' : World} {b : Nat} {kv : κ → Value} {m : List (κ × Value)} (h : MapAt w b kv m) (he : w'.heap[b]? = w.heap[b]?) : MapAt w' b kv m := by
  obtain ⟨es, clock, hb, r⟩ := h
  exact ⟨es, clock, he.trans hb, r⟩

theorem MapAt.kp {S : Nat → Prop} {w w' : World} {b : Nat} {kv : κ → Value} {m : List (κ × Value)} (h : MapAt w b kv m) (k : Kp S w w') (hn : ¬ S b) : MapAt w' b kv m :=
  h.of_block (k.block b h.lt hn)

theorem MapAt.setCell {w : World} {b : Nat} {kv : κ → Value} {m : List (κ × Value)} (h : MapAt w b kv m) (a : Addr) (v : Value) : MapAt (w.setCell a v) b kv m := by
  obtain ⟨es, clock, hb, r⟩ := h
  refine ⟨es, clock, ?_, r⟩
  simp only [World.setCell, Array.getElem?_modify]
  split
  · rename_i he
    subst he
    rw [hb]
    rfl
  · exact hb

theorem MapAt.alloc {w : World} {b : Nat} {kv : κ → Value} {m : List (κ × Value)} (h : MapAt w b kv m) (o : Obj) : MapAt (w.alloc o) b kv m :=
  h.of_block (Below.heap_alloc _ _ _ h.lt)

theorem MapAt.drew {w : World} {b : Nat} {kv : κ → Value} {m : List (κ × Value)} (h : MapAt w b kv m) : MapAt w.drew b kv m := h

theorem MapAt.new (w : World) (kv : κ → Value) : MapAt (w.alloc (.map #[] 0)) w.heap.size kv [] := by
  refine ⟨#[], 0, ?_, by simp, by simp, by simp, by simp⟩
  show (w.heap.push _)[w.heap.size]? = _
  simp

theorem MapAt.ne_blk {w : World} {b g : Nat} {kv : κ → Value} {m : List (κ × Value)} {cs : Array Value} {t : TypeId} (h : MapAt w b kv m) (hb : Blk w g cs t) : b ≠ g := by
  rintro rfl
  obtain ⟨es, clock, he, _⟩ := h
  unfold Blk at hb
  rw [he] at hb
  simp at hb

variable {P : Program} {k : TypeId} {kv : κ → Value}

theorem MapAt.len {w : World} {b : Nat} {m : List (κ × Value)} (h : MapAt w b kv m) {t e ty : TypeId} (ht : P.underlying t = some (.map k e)) :
    (Builtin.len_ #[t] ty #[.map (some b)]).run P w = .ok (.int .i64 m.length) w := by
  obtain ⟨es, clock, hb, hm, _⟩ := h
  have hl : es.size = m.length := by have := congrArg List.length hm; simpa using this
  simp [Builtin.len_, run_underlying ht, MapKept.run_getObj_map hb, hl, goInt, Result.andThen]

variable [DecidableEq κ]

theorem findNow_at {d : TypeDesc} (hs : ∀ a b, Instr.sameNow d (kv a) (kv b) = some (decide (a = b))) (a : κ) : ∀ (l : List MapEntry) (m : List (κ × Value)) (i : Nat),
    l.map (fun e => (e.key, e.val)) = m.map (fun p => (kv p.1, p.2)) → Instr.findNow d (kv a) l i = some ((m.findIdx? fun p => decide (p.1 = a)).bind fun j => (m[j]?).map fun p => (i + j, p.2))
  | [], [], i, _ => by simp [Instr.findNow]
  | [], _ :: _, _, h => by simp at h
  | _ :: _, [], _, h => by simp at h
  | e :: l, p :: m, i, h => by
    simp only [List.map_cons, List.cons.injEq, Prod.mk.injEq] at h
    obtain ⟨⟨h1, h2⟩, h3⟩ := h
    unfold Instr.findNow
    rw [h1, hs]
    by_cases hc : p.1 = a
    · simp [hc, List.findIdx?_cons, h2]
    · have hc' : ¬ a = p.1 := fun h => hc h.symm
      simp only [hc', decide_false, List.findIdx?_cons, hc]
      rw [findNow_at hs a l m (i + 1) h3]
      cases hf : m.findIdx? (fun p => decide (p.1 = a)) with
      | none => simp
      | some j => simp [Nat.add_assoc, Nat.add_comm 1 j]

theorem lookM_idx (m : List (κ × Value)) (a : κ) : lookM m a = (m.findIdx? fun p => decide (p.1 = a)).bind fun j => (m[j]?).map (·.2) := by
  unfold lookM
  induction m with
  | nil => simp
  | cons p m ih =>
    by_cases hc : p.1 = a
    · simp [hc, List.findIdx?_cons]
    · simp only [List.find?_cons, hc, decide_false, List.findIdx?_cons]
      rw [ih]
      cases hf : m.findIdx? (fun p => decide (p.1 = a)) with
      | none => simp
      | some j => simp

theorem run_findKey (K : KeyOk P k kv) (a : κ) (l : List MapEntry) (m : List (κ × Value)) (h : l.map (fun e => (e.key, e.val)) = m.map (fun p => (kv p.1, p.2))) (w : World) :
    (Instr.findKey k (kv a) l).run P w = .ok ((m.findIdx? fun p => decide (p.1 = a)).bind fun j => (m[j]?).map fun p => (j, p.2)) w := by
  obtain ⟨d, hd, hs, _⟩ := K.desc
  have := findNow_at hs a l m 0 h
  simp only [Nat.zero_add] at this
  simp [Instr.findKey, run_underlying hd, this, Result.andThen]

/-- 'm[k]': the value that is there, or z; with ok: whether it is there. -/
theorem MapAt.look {w : World} {b : Nat} {m : List (κ × Value)} (h : MapAt w b kv m) (K : KeyOk P k kv) {t e : TypeId} (ht : P.underlying t = some (.map k e)) {z : Value} (hz : (zeroValue e).run P w = .ok z w) (a : κ) :
    (Instr.lookup t (.map (some b)) (kv a) false).run P w = .ok ((lookM m a).getD z) w := by
  obtain ⟨es, clock, hb, hm, _⟩ := h
  obtain ⟨d, hd, hs, hck⟩ := K.desc
  have hf := run_findKey K a es.toList m hm w
  rw [lookM_idx]
  cases hj : m.findIdx? (fun p => decide (p.1 = a)) with
  | none =>
    rw [hj] at hf
    simp [Instr.lookup, run_underlying ht, MapKept.run_getObj_map hb, hck, hf, hz, Result.andThen]
  | some j =>
    have hlt : j < m.length := (List.findIdx?_eq_some_iff_getElem.1 hj).1
    rw [hj] at hf
    simp [hlt] at hf
    simp [Instr.lookup, run_underlying ht, MapKept.run_getObj_map hb, hck, hf, Result.andThen, hlt]

theorem MapAt.look_ok {w : World} {b : Nat} {m : List (κ × Value)} (h : MapAt w b kv m) (K : KeyOk P k kv) {t e : TypeId} (ht : P.underlying t = some (.map k e)) {z : Value} (hz : (zeroValue e).run P w = .ok z w) (a : κ) :
    (Instr.lookup t (.map (some b)) (kv a) true).run P w = .ok (.tuple #[(lookM m a).getD z, .bool (lookM m a).isSome]) w := by
  obtain ⟨es, clock, hb, hm, _⟩ := h
  obtain ⟨d, hd, hs, hck⟩ := K.desc
  have hf := run_findKey K a es.toList m hm w
  rw [lookM_idx]
  cases hj : m.findIdx? (fun p => decide (p.1 = a)) with
  | none =>
    rw [hj] at hf
    simp [Instr.lookup, run_underlying ht, MapKept.run_getObj_map hb, hck, hf, hz, Result.andThen]
  | some j =>
    have hlt : j < m.length := (List.findIdx?_eq_some_iff_getElem.1 hj).1
    rw [hj] at hf
    simp [hlt] at hf
    simp [Instr.lookup, run_underlying ht, MapKept.run_getObj_map hb, hck, hf, Result.andThen, hlt]


theorem any_idx (m : List (κ × Value)) (a : κ) : (m.any fun p => decide (p.1 = a)) = (m.findIdx? fun p => decide (p.1 = a)).isSome := by
  rw [Bool.eq_iff_iff]
  simp [List.findIdx?_isSome]

theorem modify_map (kv : κ → Value) (a : κ) (v : Value) : ∀ (es : List MapEntry) (m : List (κ × Value)) (j : Nat), es.map (fun e => (e.key, e.val)) = m.map (fun p => (kv p.1, p.2)) → (m.map (·.1)).Nodup →
    (m.findIdx? fun p => decide (p.1 = a)) = some j → (es.modify j fun e => { e with key := kv a, val := v }).map (fun e => (e.key, e.val)) = (m.map fun p => if p.1 = a then (a, v) else p).map (fun p => (kv p.1, p.2))
  | [], [], j, _, _, h => by simp at h
  | [], _ :: _, _, h, _, _ => by simp at h
  | _ :: _, [], _, h, _, _ => by simp at h
  | e :: es, p :: m, j, h, hn, hf => by
    simp only [List.map_cons, List.cons.injEq, Prod.mk.injEq] at h
    obtain ⟨⟨h1, h2⟩, h3⟩ := h
    simp only [List.map_cons, List.nodup_cons] at hn
    rw [List.findIdx?_cons] at hf
    by_cases hc : p.1 = a
    · simp [hc] at hf
      subst hf
      have hrest : (m.map fun p => if p.1 = a then (a, v) else p) = m := by
        conv => rhs; rw [← List.map_id m]
        refine List.map_congr_left fun q hq => ?_
        have : q.1 ≠ a := fun e' => hn.1 (by rw [hc, ← e']; exact List.mem_map_of_mem hq)
        simp [this]
      simp [hc, hrest, h3]
    · simp only [hc, decide_false, Bool.false_eq_true, if_false] at hf
      cases hf' : m.findIdx? (fun p => decide (p.1 = a)) with
      | none => rw [hf'] at hf; simp at hf
      | some j' =>
        rw [hf'] at hf
        simp at hf
        subst hf
        have ih := modify_map kv a v es m j' h3 hn.2 hf'
        simp only [List.modify_succ_cons, List.map_cons, hc, if_false, h1, h2]
        rw [ih]

/-- 'm[k] = v'. -/
theorem MapAt.put {w : World} {b : Nat} {m : List (κ × Value)} (h : MapAt w b kv m) (K : KeyOk P k kv) {t e : TypeId} (ht : P.underlying t = some (.map k e)) (a : κ) (v : Value) :
    ∃ w', (Instr.mapUpdate t (.map (some b)) (kv a) v).run P w = .ok () w' ∧ MapAt w' b kv (putM m a v) ∧ Kp (fun g => g = b) w w' ∧ w'.heap.size = w.heap.size := by
  obtain ⟨es, clock, hb, hm, hnd, hbn, hlt⟩ := h
  obtain ⟨d, hd, hs, hck⟩ := K.desc
  have hf := run_findKey K a es.toList m hm w
  have hkp : ∀ o, Kp (fun g => g = b) w (ChangeMaps.setBlock w b o) := fun o => ⟨rfl, rfl, rfl, by simp [ChangeMaps.setBlock], fun i _ hi => ChangeMaps.heap_setBlock_other hb _ (fun e => hi (by rw [e]))⟩
  cases hj : m.findIdx? (fun p => decide (p.1 = a)) with
  | none =>
    rw [hj] at hf
    have hany : (m.any fun p => decide (p.1 = a)) = false := by rw [any_idx, hj]; rfl
    refine ⟨ChangeMaps.setBlock w b (.map (es.push { key := kv a, val := v, born := clock }) (clock + 1)), ?_, ⟨_, _, ChangeMaps.heap_setBlock_same hb _, ?_, ?_, ?_, ?_⟩, hkp _, by simp [ChangeMaps.setBlock]⟩
    · simp [Instr.mapUpdate, run_underlying ht, MapKept.run_getObj_map hb, hck, hf, MapKept.run_setObj_map _ hb, ChangeMaps.setBlock, Result.andThen]
    · simp [putM, hany, hm]
    · have : a ∉ m.map (·.1) := by
        intro hmem
        obtain ⟨p, hp, rfl⟩ := List.mem_map.1 hmem
        have : (m.any fun q => decide (q.1 = p.1)) = true := List.any_eq_true.2 ⟨p, hp, by simp⟩
        rw [this] at hany
        cases hany
      simp only [putM, hany, Bool.false_eq_true, if_false, List.map_append, List.map_cons, List.map_nil]
      rw [List.nodup_append]
      exact ⟨hnd, by simp, by intro x hx y hy; simp at hy; subst hy; rintro rfl; exact this hx⟩
    · simp only [Array.toList_push, List.map_append, List.map_cons, List.map_nil]
      rw [List.nodup_append]
      refine ⟨hbn, by simp, ?_⟩
      intro x hx y hy
      simp at hy
      subst hy
      obtain ⟨e', he', rfl⟩ := List.mem_map.1 hx
      have := hlt e' he'
      omega
    · intro e' he'
      simp only [Array.toList_push, List.mem_append, List.mem_singleton] at he'
      rcases he' with he' | rfl
      · have := hlt e' he'; omega
      · simp
  | some j =>
    have hjl : j < m.length := (List.findIdx?_eq_some_iff_getElem.1 hj).1
    have hkey : m[j].1 = a := by simpa using (List.findIdx?_eq_some_iff_getElem.1 hj).2.1
    have hlen : es.size = m.length := by have := congrArg List.length hm; simpa using this
    have hek : es[j]?.map (·.key) = some (kv a) := by
      have := congrArg (fun l => l[j]?) hm
      simp [hjl, show j < es.size by omega] at this
      simp [show j < es.size by omega, this.1, hkey]
    have hany : (m.any fun p => decide (p.1 = a)) = true := by rw [any_idx, hj]; rfl
    rw [hj] at hf
    simp [hjl] at hf
    refine ⟨ChangeMaps.setBlock w b (.map (es.modify j fun e => { e with key := kv a, val := v }) clock), ?_, ⟨_, _, ChangeMaps.heap_setBlock_same hb _, ?_, ?_, ?_, ?_⟩, hkp _, by simp [ChangeMaps.setBlock]⟩
    · simp [Instr.mapUpdate, run_underlying ht, MapKept.run_getObj_map hb, hck, hf, MapKept.run_setObj_map _ hb, ChangeMaps.setBlock, Result.andThen, hek, Instr.keyThatStays, K.bits]
    · rw [Array.toList_modify]
      simp only [putM, hany, if_true]
      exact modify_map kv a v es.toList m j hm hnd hj
    · simp only [putM, hany, if_true, List.map_map]
      have : (m.map ((fun x => x.1) ∘ fun p => if p.1 = a then (a, v) else p)) = m.map (·.1) := by
        refine List.map_congr_left fun q _ => ?_
        by_cases hq : q.1 = a <;> simp [hq]
      rw [this]
      exact hnd
    · rw [Array.toList_modify]
      have : (es.toList.modify j fun e => { e with key := kv a, val := v }).map (·.born) = es.toList.map (·.born) := by
        apply List.ext_getElem
        · simp
        · intro i h1 h2
          simp [List.getElem_modify]
          split <;> rfl
      rw [this]
      exact hbn
    · intro e' he'
      rw [Array.toList_modify] at he'
      obtain ⟨i, hi, rfl⟩ := List.getElem_of_mem he'
      rw [List.getElem_modify]
      have hi' : i < es.toList.length := by simpa using hi
      have := hlt (es.toList[i]) (List.getElem_mem hi')
      split <;> exact this

theorem erase_map (kv : κ → Value) (a : κ) : ∀ (es : List MapEntry) (m : List (κ × Value)) (j : Nat), es.map (fun e => (e.key, e.val)) = m.map (fun p => (kv p.1, p.2)) → (m.map (·.1)).Nodup →
    (m.findIdx? fun p => decide (p.1 = a)) = some j → (es.eraseIdx j).map (fun e => (e.key, e.val)) = (delM m a).map (fun p => (kv p.1, p.2))
  | [], [], j, _, _, h => by simp at h
  | [], _ :: _, _, h, _, _ => by simp at h
  | _ :: _, [], _, h, _, _ => by simp at h
  | e :: es, p :: m, j, h, hn, hf => by
    simp only [List.map_cons, List.cons.injEq, Prod.mk.injEq] at h
    obtain ⟨⟨h1, h2⟩, h3⟩ := h
    simp only [List.map_cons, List.nodup_cons] at hn
    rw [List.findIdx?_cons] at hf
    by_cases hc : p.1 = a
    · simp [hc] at hf
      subst hf
      have hrest : delM m a = m := by
        unfold delM
        rw [List.filter_eq_self]
        intro q hq
        have : q.1 ≠ a := fun e' => hn.1 (by rw [hc, ← e']; exact List.mem_map_of_mem hq)
        simp [this]
      have : delM (p :: m) a = delM m a := by simp [delM, hc]
      rw [this, hrest]
      simpa using h3
    · simp only [hc, decide_false, Bool.false_eq_true, if_false] at hf
      cases hf' : m.findIdx? (fun p => decide (p.1 = a)) with
      | none => rw [hf'] at hf; simp at hf
      | some j' =>
        rw [hf'] at hf
        simp at hf
        subst hf
        have ih := erase_map kv a es m j' h3 hn.2 hf'
        have : delM (p :: m) a = p :: delM m a := by simp [delM, hc]
        rw [this]
        simp only [List.eraseIdx_cons_succ, List.map_cons, h1, h2, ih]

/-- 'delete(m, k)'. -/
theorem MapAt.del {w : World} {b : Nat} {m : List (κ × Value)} (h : MapAt w b kv m) (K : KeyOk P k kv) {t e ty : TypeId} (ht : P.underlying t = some (.map k e)) (a : κ) :
    ∃ w', (Builtin.delete_ #[t, k] ty #[.map (some b), kv a]).run P w = .ok (.tuple #[]) w' ∧ MapAt w' b kv (delM m a) ∧ Kp (fun g => g = b) w w' ∧ w'.heap.size = w.heap.size := by
  obtain ⟨es, clock, hb, hm, hnd, hbn, hlt⟩ := h
  obtain ⟨d, hd, hs, hck⟩ := K.desc
  have hf := run_findKey K a es.toList m hm w
  have hkp : ∀ o, Kp (fun g => g = b) w (ChangeMaps.setBlock w b o) := fun o => ⟨rfl, rfl, rfl, by simp [ChangeMaps.setBlock], fun i _ hi => ChangeMaps.heap_setBlock_other hb _ (fun e => hi (by rw [e]))⟩
  cases hj : m.findIdx? (fun p => decide (p.1 = a)) with
  | none =>
    rw [hj] at hf
    have hdel : delM m a = m := by
      unfold delM
      rw [List.filter_eq_self]
      intro q hq
      have := List.findIdx?_eq_none_iff.1 hj q hq
      simpa using this
    refine ⟨ChangeMaps.setBlock w b (.map es clock), ?_, ⟨_, _, ChangeMaps.heap_setBlock_same hb _, by rw [hdel]; exact hm, by rw [hdel]; exact hnd, hbn, hlt⟩, hkp _, by simp [ChangeMaps.setBlock]⟩
    simp [Builtin.delete_, run_underlying ht, MapKept.run_getObj_map hb, hck, hf, MapKept.run_setObj_map _ hb, ChangeMaps.setBlock, Result.andThen]
  | some j =>
    have hjl : j < m.length := (List.findIdx?_eq_some_iff_getElem.1 hj).1
    have hlen : es.size = m.length := by have := congrArg List.length hm; simpa using this
    rw [hj] at hf
    simp [hjl] at hf
    have her : (es.eraseIdxIfInBounds j).toList = es.toList.eraseIdx j := by
      unfold Array.eraseIdxIfInBounds
      rw [dif_pos (by omega)]
      simp
    refine ⟨ChangeMaps.setBlock w b (.map (es.eraseIdxIfInBounds j) clock), ?_, ⟨_, _, ChangeMaps.heap_setBlock_same hb _, ?_, ?_, ?_, ?_⟩, hkp _, by simp [ChangeMaps.setBlock]⟩
    · simp [Builtin.delete_, run_underlying ht, MapKept.run_getObj_map hb, hck, hf, MapKept.run_setObj_map _ hb, ChangeMaps.setBlock, Result.andThen]
    · rw [her]
      exact erase_map kv a es.toList m j hm hnd hj
    · exact hnd.sublist ((List.filter_sublist (l := m)).map _)
    · rw [her]
      exact hbn.sublist ((List.eraseIdx_sublist _ _).map _)
    · intro e' he'
      rw [her] at he'
      exact hlt e' ((List.eraseIdx_sublist _ _).subset he')
end
end Go.Proofs.Ytahopbjoaoiknaa

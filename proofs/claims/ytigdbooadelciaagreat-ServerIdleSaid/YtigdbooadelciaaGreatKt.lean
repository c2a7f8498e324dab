/- What a call keeps, told by the types of the blocks that it may turn. Nothing of the program stands here. -/
import Derived.Test.YtigdbooadelciaaGreatApd
import Derived.Test.YtigdbooadelciaaGreatMp
import Derived.Test.YtigdbooadelciaaGreatRd
namespace Go.Proofs.YtigdbooadelciaaGreat
set_option linter.unusedVariables false
set_option linter.unusedSimpArgs false
open Go.RowKit

/-- An object that is neither a row of cells of a type of T nor, if M, a map. -/
def Stays (T : TypeId → Prop) (M : Prop) : Obj → Prop
  | .cells _ t _ => ¬ T t
  | .map _ _ => ¬ M
  | _ => True

/-- All old blocks are as they were, but those from B on that are rows of the types of T, or (if M) maps. -/
structure Kt (B : Nat) (T : TypeId → Prop) (M : Prop) (w w' : World) : Prop where
  os : w'.os = w.os
  tape : w'.tape = w.tape
  output : w'.output = w.output
  size : w.heap.size ≤ w'.heap.size
  block : ∀ k o, w.heap[k]? = some o → (k < B ∨ Stays T M o) → w'.heap[k]? = some o

variable {B : Nat} {T : TypeId → Prop} {M : Prop}

theorem Kt.refl (w : World) : Kt B T M w w := ⟨rfl, rfl, rfl, Nat.le_refl _, fun _ _ h _ => h⟩
theorem Kt.trans {a b c : World} (h : Kt B T M a b) (k : Kt B T M b c) : Kt B T M a c :=
  ⟨k.os.trans h.os, k.tape.trans h.tape, k.output.trans h.output, Nat.le_trans h.size k.size, fun i o hi hs => k.block i o (h.block i o hi hs) hs⟩
theorem Kt.of_kp {w w' : World} (k : Kp (fun _ => False) w w') : Kt B T M w w' :=
  ⟨k.os, k.tape, k.output, k.size, fun i o hi _ => (k.block i (Array.getElem?_eq_some_iff.1 hi).1 id).trans hi⟩
theorem Kt.kp {a w w' : World} (h : Kt B T M a w) (k : Kp (fun _ => False) w w') : Kt B T M a w' := h.trans (Kt.of_kp k)
theorem Kt.alloc {a w : World} (h : Kt B T M a w) (o : Obj) : Kt B T M a (w.alloc o) := h.kp ((Kp.refl _ _).alloc o)
theorem Kt.drew {a w : World} (h : Kt B T M a w) : Kt B T M a w.drew := ⟨h.os, h.tape, h.output, h.size, h.block⟩
theorem Kt.drewN {a w : World} (h : Kt B T M a w) (n : Nat) : Kt B T M a (w.drewN n) := ⟨h.os, h.tape, h.output, h.size, h.block⟩

/-- A step that turns one block, of a type of T. -/
theorem Kt.one {a w w' : World} {b : Nat} (h : Kt B T M a w) (k : Kp (fun i => i = b) w w') (hs : B ≤ b) (hb : ∀ o, w.heap[b]? = some o → ¬ Stays T M o) : Kt B T M a w' :=
  h.trans ⟨k.os, k.tape, k.output, k.size, fun i o hi hst => by
    refine (k.block i (Array.getElem?_eq_some_iff.1 hi).1 ?_).trans hi
    rintro rfl
    rcases hst with h | h
    · omega
    · exact hb o hi h⟩
/-- A step that turns only what is new since. -/
theorem Kt.fresh {S : Nat → Prop} {a w w' : World} (h : Kt B T M a w) (k : Kp S w w') (hS : ∀ i, S i → a.heap.size ≤ i) : Kt B T M a w' :=
  ⟨k.os.trans h.os, k.tape.trans h.tape, k.output.trans h.output, Nat.le_trans h.size k.size, fun i o hi hs => by
    have hlt : i < a.heap.size := (Array.getElem?_eq_some_iff.1 hi).1
    exact (k.block i (Nat.lt_of_lt_of_le hlt h.size) (fun hS' => by have := hS i hS'; omega)).trans (h.block i o hi hs)⟩
theorem Blk.not_stays {w : World} {b : Nat} {cs : Array Value} {t : TypeId} (h : Blk w b cs t) (ht : T t) : ∀ o, w.heap[b]? = some o → ¬ Stays T M o := by
  intro o ho
  unfold Blk at h
  rw [h] at ho
  simp only [Option.some.injEq] at ho
  subst ho
  exact fun hs => hs ht
theorem MapAt.not_stays {κ : Type} {w : World} {b : Nat} {kv : κ → Value} {m : List (κ × Value)} (h : MapAt w b kv m) (hM : M) : ∀ o, w.heap[b]? = some o → ¬ Stays T M o := by
  intro o ho
  obtain ⟨es, clock, he, _⟩ := h
  rw [he] at ho
  simp only [Option.some.injEq] at ho
  subst ho
  exact fun hs => hs hM
theorem Kt.blk {a w w' : World} {b : Nat} {cs : Array Value} {t : TypeId} (h : Kt B T M a w) (hb : Blk w b cs t) (ht : T t) (hs : B ≤ b) (k : Kp (fun i => i = b) w w') : Kt B T M a w' := h.one k hs (hb.not_stays ht)
theorem Kt.setCell {a w : World} {b : Nat} {cs : Array Value} {t : TypeId} (h : Kt B T M a w) (hb : Blk w b cs t) (ht : T t) (hs : B ≤ b) (j : Nat) (v : Value) : Kt B T M a (w.setCell ⟨b, j, none⟩ v) :=
  h.blk hb ht hs ((Kp.refl _ w).set1 j v)
theorem Kt.map {κ : Type} {a w w' : World} {b : Nat} {kv : κ → Value} {m : List (κ × Value)} (h : Kt B T M a w) (hb : MapAt w b kv m) (hM : M) (hs : B ≤ b) (k : Kp (fun i => i = b) w w') : Kt B T M a w' := h.one k hs (hb.not_stays hM)
theorem Kt.grown {a w w' : World} {base n size : Nat} {e : TypeId} {v : Value} {xs : List Value} (h : Kt B T M a w) (ho : w.ownsRow base e size v n xs) (hB : B ≤ base) (ht : T e) (hg : w.grownBy w' v.ownBlock) : Kt B T M a w' :=
  h.trans ⟨hg.os, hg.tape, hg.output, hg.size, fun i o hi hst => by
    refine (hg.block i (Array.getElem?_eq_some_iff.1 hi).1 ?_).trans hi
    intro hk
    rcases hst with h | h
    · have := (ho.lt i hk.symm).1
      omega
    · rcases ho.2 with ⟨rfl, _⟩ | ⟨g, cap, cur, rfl, _, hh, _⟩
      · simp [Value.ownBlock] at hk
      · simp [Value.ownBlock] at hk
        subst hk
        rw [hh] at hi
        simp only [Option.some.injEq] at hi
        subst hi
        exact h ht⟩
theorem Kt.mono {B' : Nat} {T' : TypeId → Prop} {M' : Prop} {w w' : World} (h : Kt B T M w w') (hB : B' ≤ B) (hT : ∀ t, T t → T' t) (hM : M → M') : Kt B' T' M' w w' :=
  ⟨h.os, h.tape, h.output, h.size, fun k o hk hs => h.block k o hk (hs.elim (fun h => .inl (by omega)) fun hs => .inr (by
    cases o with
    | cells cs t f => exact fun h => hs (hT t h)
    | map es c => exact fun h => hs (hM h)
    | _ => trivial))⟩

theorem Kt.below {w w' : World} (h : Kt B T M w w') (hB : B ≤ w.heap.size) : Below B w w' :=
  ⟨h.os, h.tape, h.output, h.size, fun k hk => by
    have hk' : k < w.heap.size := by omega
    rw [h.block k w.heap[k] (by simp [hk']) (.inl hk)]
    simp [hk']⟩

theorem Blk.kt {w w' : World} {b : Nat} {cs : Array Value} {t : TypeId} (h : Blk w b cs t) (k : Kt B T M w w') (hn : ¬ T t) : Blk w' b cs t := k.block b _ h (.inr hn)
theorem MapAt.kt {κ : Type} {w w' : World} {b : Nat} {kv : κ → Value} {m : List (κ × Value)} (h : MapAt w b kv m) (k : Kt B T M w w') (hn : ¬ M) : MapAt w' b kv m := by
  obtain ⟨es, clock, he, r⟩ := h
  exact ⟨es, clock, k.block b _ he (.inr hn), r⟩
theorem own_kt {w w' : World} {base n size : Nat} {e : TypeId} {v : Value} {xs : List Value} (h : w.ownsRow base e size v n xs) (k : Kt B T M w w') (hn : ¬ T e) : w'.ownsRow base e size v n xs := by
  refine ⟨h.1, ?_⟩
  rcases h.2 with hz | ⟨g, cap, cur, rfl, hb, hg, rest⟩
  · exact .inl hz
  · exact .inr ⟨g, cap, cur, rfl, hb, k.block g _ hg (.inr hn), rest⟩

/-- A row of the call's own, of one cell an element. -/
def OwnR {α : Type} (t : TypeId) (mk : α → Value) (w : World) (base : Nat) (v : Value) (l : List α) : Prop := w.ownsRow base t 1 v l.length (l.map mk)

theorem OwnR.row {α : Type} {t : TypeId} {mk : α → Value} {w : World} {base : Nat} {v : Value} {l : List α} (h : OwnR t mk w base v l) : RowN 1 (One mk) w v l := by
  obtain ⟨_, h⟩ := h
  rcases h with ⟨rfl, h0⟩ | ⟨g, cap, cur, rfl, hg, hb, hc1, hc2, hcur, ht⟩
  · obtain rfl : l = [] := List.eq_nil_of_length_eq_zero h0
    exact RowN.nil _ _ _
  · refine ⟨some ⟨g, 0, none⟩, cap, rfl, hc1, hc2, fun i hi => ⟨g, 0, [mk l[i]], rfl, rfl, fun j hj => ?_, rfl⟩⟩
    obtain rfl : j = 0 := by omega
    have hh : Blk w g cur t := hb
    rw [hh.cell, Nat.mul_one] at *
    have : (cur.toList.take l.length)[i]? = some (mk l[i]) := by rw [ht]; simp [hi]
    rw [List.getElem?_take_of_lt hi] at this
    simpa using this
theorem OwnR.kt {α : Type} {t : TypeId} {mk : α → Value} {w w' : World} {base : Nat} {v : Value} {l : List α} (h : OwnR t mk w base v l) (k : Kt B T M w w') (hn : ¬ T t) : OwnR t mk w' base v l := own_kt h k hn
theorem OwnR.kp {α : Type} {t : TypeId} {mk : α → Value} {w w' : World} {base : Nat} {v : Value} {l : List α} (h : OwnR t mk w base v l) (k : Kp (fun _ => False) w w') : OwnR t mk w' base v l := own_kp h k (fun _ _ h => h)
theorem OwnR.nil {α : Type} (t : TypeId) (mk : α → Value) (w : World) (base : Nat) : OwnR t mk w base (.slice none 0 0) [] := ⟨rfl, .inl ⟨rfl, rfl⟩⟩
theorem OwnR.base {α : Type} {t : TypeId} {mk : α → Value} {w : World} {base base' : Nat} {v : Value} {l : List α} (h : OwnR t mk w base v l) (hb : base' ≤ base) : OwnR t mk w base' v l := by
  refine ⟨h.1, ?_⟩
  rcases h.2 with hz | ⟨g, cap, cur, rfl, hg, rest⟩
  · exact .inl hz
  · exact .inr ⟨g, cap, cur, rfl, by omega, rest⟩
theorem OwnR.form {α : Type} {t : TypeId} {mk : α → Value} {w : World} {base : Nat} {v : Value} {l : List α} (h : OwnR t mk w base v l) : ∃ A cap, v = .slice A l.length cap := by
  obtain ⟨A, cap, e, _⟩ := h.row.one
  exact ⟨A, cap, e⟩
end Go.Proofs.YtigdbooadelciaaGreat

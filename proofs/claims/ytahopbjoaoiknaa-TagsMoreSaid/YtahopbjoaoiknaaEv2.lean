/- An evaluator over named blocks: what a state of named blocks says of a world; steps. Nothing of the program stands here. -/
import Derived.Test.YtahopbjoaoiknaaEv1
import Derived.Test.YtahopbjoaoiknaaMp2
namespace Go.Proofs.Ytahopbjoaoiknaa
set_option linter.unusedVariables false
set_option linter.unusedSimpArgs false
open Go.RowKit

inductive AObj where
  /-- A row of cells, known whole. -/
  | cells (cs : List Value) (t : TypeId)
  /-- A row of cells, known from its head on; behind it there may be more. -/
  | loose (cs : List Value) (t : TypeId)
  /-- Cells that are only read. -/
  | seg (cs : List Value)
  | mapI (k : IntKind) (m : List (Int × Value))
  | mapS (m : List (ByteArray × Value))
  | str (s : ByteArray) (pos : Nat)
  /-- A map whose last entry was just made, for key n, told by the stamp sid. -/
  | entI (k : IntKind) (m : List (Int × Value)) (n : Int) (sid : Nat)
  | entS (m : List (ByteArray × Value)) (n : ByteArray) (sid : Nat)
  /-- No block: a name that stands for a truth value. -/
  | isB
  /-- Where an empty slice at a row's very end lies; n names the same place, with no capacity. -/
  | tl (n : Nat)
  /-- A place with no capacity. -/
  | nul
  /-- The same row as p's, its capacity known: to be read only. -/
  | vw (p : Nat)
  /-- Not to be looked at again. -/
  | dead

def AObj.own : AObj → Bool
  | .seg _ => false
  | .vw _ => false
  | .tl _ => false
  | .nul => false
  | .dead => false
  | .isB => false
  | _ => true
def AObj.live : AObj → Bool
  | .vw _ => false
  | .tl _ => false
  | .nul => false
  | .dead => false
  | .isB => false
  | _ => true

def VRm {κ : Type} (R : Ren) (m m' : List (κ × Value)) : Prop := m'.map (·.1) = m.map (·.1) ∧ VRs R (m.map (·.2)) (m'.map (·.2))
theorem VRm.mono {κ : Type} {R R' : Ren} (h : R.le R') {m m' : List (κ × Value)} (k : VRm R m m') : VRm R' m m' := ⟨k.1, k.2.mono h⟩

def SatObj (P : Program) (R : Ren) (w : World) (id : Nat) : AObj → Prop
  | .cells cs t => ∃ l cur, R id = some l ∧ l.off = 0 ∧ l.ext = 0 ∧ VRs R cs cur ∧ w.heap[l.blk]? = some (.cells ⟨cur⟩ t (0, 0))
  | .loose cs t => ∃ l cur i n, R id = some l ∧ l.off = 0 ∧ VRs R cs (cur.take cs.length) ∧ w.heap[l.blk]? = some (.cells ⟨cur⟩ t (0, 0)) ∧
      P.info? t = some i ∧ 0 < i.size ∧ cs.length = n * i.size ∧ cur.length = (n + l.ext) * i.size ∧ n + l.ext ≤ maxLen
  | .seg cs => ∃ l, R id = some l ∧ l.ext = 0 ∧ l.blk < w.heap.size ∧ ∀ (j : Nat) (x : Value), cs[j]? = some x → ∃ v, VR R x v ∧ w.cell? ⟨l.blk, l.off + j, none⟩ = some v
  | .mapI k m => ∃ l m', R id = some l ∧ VRm R m m' ∧ MapAt w l.blk (Value.int k) m'
  | .mapS m => ∃ l m', R id = some l ∧ VRm R m m' ∧ MapAt w l.blk Value.string m'
  | .entI k m n sid => ∃ l m' ls z, R id = some l ∧ R sid = some ls ∧ VRm R m m' ∧ ∃ c : Nat, ls.val = .int .i64 c ∧ MidMap w l.blk (Value.int k) m' n z c
  | .entS m n sid => ∃ l m' ls z, R id = some l ∧ R sid = some ls ∧ VRm R m m' ∧ ∃ c : Nat, ls.val = .int .i64 c ∧ MidMap w l.blk Value.string m' n z c
  | .str s pos => ∃ l, R id = some l ∧ l.off = 0 ∧ w.heap[l.blk]? = some (.stringIter s pos)
  | .isB => ∃ l b, R id = some l ∧ l.val = .bool b
  | .tl n => ∃ l l2, R id = some l ∧ R n = some l2 ∧ l2.blk = l.blk ∧ l2.off = l.off ∧ l2.ext = 0
  | .nul => ∃ l, R id = some l ∧ l.ext = 0
  | .vw p => ∃ l l2, R id = some l ∧ R p = some l2 ∧ l.blk = l2.blk ∧ l.off = l2.off ∧ l.ext = 0
  | .dead => True

theorem SatObj.dull {P : Program} {R R' : Ren} {w w' : World} {id : Nat} {o : AObj} (h : SatObj P R w id o) (hr : R.le R') (hv : ¬ o.live = true) : SatObj P R' w' id o := by
  cases o <;> first | exact absurd rfl hv | trivial | (obtain ⟨l, l2, h1, h2, h3⟩ := h; exact ⟨l, l2, hr _ _ h1, hr _ _ h2, h3⟩) | (obtain ⟨l, h1, h2⟩ := h; exact ⟨l, hr _ _ h1, h2⟩) | (obtain ⟨l, b, h1, h2⟩ := h; exact ⟨l, b, hr _ _ h1, h2⟩)
theorem SatObj.loc {P : Program} {R : Ren} {w : World} {id : Nat} : ∀ {o : AObj}, SatObj P R w id o → o.live = true → ∃ l, R id = some l
  | .cells _ _, ⟨l, _, h, _⟩, _ => ⟨l, h⟩
  | .loose _ _, ⟨l, _, _, _, h, _⟩, _ => ⟨l, h⟩
  | .seg _, ⟨l, h, _⟩, _ => ⟨l, h⟩
  | .mapI _ _, ⟨l, _, h, _⟩, _ => ⟨l, h⟩
  | .mapS _, ⟨l, _, h, _⟩, _ => ⟨l, h⟩
  | .entI _ _ _ _, ⟨l, _, _, _, h, _⟩, _ => ⟨l, h⟩
  | .entS _ _ _, ⟨l, _, _, _, h, _⟩, _ => ⟨l, h⟩
  | .str _ _, ⟨l, h, _⟩, _ => ⟨l, h⟩
  | .isB, _, h => by simp [AObj.live] at h
  | .tl _, _, h => by simp [AObj.live] at h
  | .vw _, _, h => by simp [AObj.live] at h
  | .nul, _, h => by simp [AObj.live] at h
  | .dead, _, h => by simp [AObj.live] at h
/-- An object that the call may write lies in a block of the world. -/
theorem SatObj.lt {P : Program} {R : Ren} {w : World} {id : Nat} {l : Loc} (hl : R id = some l) : ∀ {o : AObj}, SatObj P R w id o → o.own = true → l.blk < w.heap.size
  | .cells _ _, ⟨l', _, h, _, _, _, hb⟩, _ => by rw [hl] at h; cases h; exact (Array.getElem?_eq_some_iff.1 hb).1
  | .loose _ _, ⟨l', _, _, _, h, _, _, hb, _⟩, _ => by rw [hl] at h; cases h; exact (Array.getElem?_eq_some_iff.1 hb).1
  | .seg _, _, h => by simp [AObj.own] at h
  | .mapI _ _, ⟨l', _, h, _, hb⟩, _ => by rw [hl] at h; cases h; exact hb.lt
  | .mapS _, ⟨l', _, h, _, hb⟩, _ => by rw [hl] at h; cases h; exact hb.lt
  | .entI _ _ _ _, ⟨l', _, _, _, h, _, _, _, _, es, hb, _⟩, _ => by rw [hl] at h; cases h; exact (Array.getElem?_eq_some_iff.1 hb).1
  | .entS _ _ _, ⟨l', _, _, _, h, _, _, _, _, es, hb, _⟩, _ => by rw [hl] at h; cases h; exact (Array.getElem?_eq_some_iff.1 hb).1
  | .str _ _, ⟨l', h, _, hb⟩, _ => by rw [hl] at h; cases h; exact (Array.getElem?_eq_some_iff.1 hb).1
  | .isB, _, h => by simp [AObj.own] at h
  | .tl _, _, h => by simp [AObj.own] at h
  | .vw _, _, h => by simp [AObj.own] at h
  | .nul, _, h => by simp [AObj.own] at h
  | .dead, _, h => by simp [AObj.own] at h
theorem SatObj.keep {P : Program} {R R' : Ren} {w w' : World} {id : Nat} (hr : R.le R') (hz : w.heap.size ≤ w'.heap.size) : ∀ {o : AObj}, SatObj P R w id o → (∀ l, R id = some l → l.blk < w.heap.size → w'.heap[l.blk]? = w.heap[l.blk]?) → SatObj P R' w' id o
  | .cells cs t, ⟨l, cur, h1, h2, h3, h4, h5⟩, hw => ⟨l, cur, hr _ _ h1, h2, h3, h4.mono hr, (hw l h1 (Array.getElem?_eq_some_iff.1 h5).1).trans h5⟩
  | .loose cs t, ⟨l, cur, i, n, h1, h2, h3, h4, h5⟩, hw => ⟨l, cur, i, n, hr _ _ h1, h2, h3.mono hr, (hw l h1 (Array.getElem?_eq_some_iff.1 h4).1).trans h4, h5⟩
  | .seg cs, ⟨l, h1, h2, h0, h3⟩, hw => ⟨l, hr _ _ h1, h2, Nat.lt_of_lt_of_le h0 hz, fun j x hx => by
      obtain ⟨v, hv, hc⟩ := h3 j x hx
      refine ⟨v, hv.mono hr, (World.cell?_of_block (hw l h1 h0)).trans hc⟩⟩
  | .mapI k m, ⟨l, m', h1, h2, h3⟩, hw => ⟨l, m', hr _ _ h1, h2.mono hr, h3.of_block (hw l h1 h3.lt)⟩
  | .mapS m, ⟨l, m', h1, h2, h3⟩, hw => ⟨l, m', hr _ _ h1, h2.mono hr, h3.of_block (hw l h1 h3.lt)⟩
  | .entI k m n sid, ⟨l, m', ls, z, h1, h2, h3, c, h5, h4⟩, hw => ⟨l, m', ls, z, hr _ _ h1, hr _ _ h2, h3.mono hr, c, h5, h4.of_block (hw l h1 (by obtain ⟨es, hb, _⟩ := h4; exact (Array.getElem?_eq_some_iff.1 hb).1))⟩
  | .entS m n sid, ⟨l, m', ls, z, h1, h2, h3, c, h5, h4⟩, hw => ⟨l, m', ls, z, hr _ _ h1, hr _ _ h2, h3.mono hr, c, h5, h4.of_block (hw l h1 (by obtain ⟨es, hb, _⟩ := h4; exact (Array.getElem?_eq_some_iff.1 hb).1))⟩
  | .str s pos, ⟨l, h1, h2, h3⟩, hw => ⟨l, hr _ _ h1, h2, (hw l h1 (Array.getElem?_eq_some_iff.1 h3).1).trans h3⟩
  | .isB, ⟨l, b, h1, h2⟩, _ => ⟨l, b, hr _ _ h1, h2⟩
  | .tl _, ⟨l, l2, h1, h2, h3⟩, _ => ⟨l, l2, hr _ _ h1, hr _ _ h2, h3⟩
  | .vw _, ⟨l, l2, h1, h2, h3⟩, _ => ⟨l, l2, hr _ _ h1, hr _ _ h2, h3⟩
  | .nul, ⟨l, h1, h2⟩, _ => ⟨l, hr _ _ h1, h2⟩
  | .dead, _, _ => trivial
theorem SatObj.lt' {P : Program} {R : Ren} {w : World} {id : Nat} {l : Loc} (hl : R id = some l) : ∀ {o : AObj}, SatObj P R w id o → o.live = true → l.blk < w.heap.size
  | .cells cs t, h, _ => h.lt hl rfl
  | .loose cs t, h, _ => h.lt hl rfl
  | .mapI k m, h, _ => h.lt hl rfl
  | .mapS m, h, _ => h.lt hl rfl
  | .entI _ _ _ _, h, _ => h.lt hl rfl
  | .entS _ _ _, h, _ => h.lt hl rfl
  | .str s pos, h, _ => h.lt hl rfl
  | .seg _, ⟨l', h1, _, h3, _⟩, _ => by
    rw [hl] at h1
    cases h1
    exact h3
  | .isB, _, h => by simp [AObj.live] at h
  | .tl _, _, h => by simp [AObj.live] at h
  | .vw _, _, h => by simp [AObj.live] at h
  | .nul, _, h => by simp [AObj.live] at h
  | .dead, _, h => by simp [AObj.live] at h

inductive Hint where
  | auto
  | b (d : Bool)
  | val (v : Value)
  | at_ (i : Option Nat)

/-- The evaluator's state: blocks by name, the next name, what was looked at and written, what is to be shown, hints. -/
structure St where
  h : Tr AObj
  c : Nat
  rd : List Nat
  wr : List Nat
  ob : List (Ren → Prop)
  hs : List Hint

/-- Below this number all is as it was in this world. -/
structure Gd where
  W : World
  B : Nat

structure Sat (P : Program) (G : Gd) (F : Nat → Prop) (R : Ren) (h : Tr AObj) (w : World) : Prop where
  obj : ∀ id o, F id → h.get id = some o → SatObj P R w id o
  dom : ∀ id l, F id → R id = some l → (h.get id).isSome = true ∨ id % 2 = 1
  inj : ∀ id id' o o' l l', F id → F id' → id ≠ id' → h.get id = some o → h.get id' = some o' → o.live = true → o'.live = true → (o.own = true ∨ o'.own = true) → R id = some l → R id' = some l' → l.blk ≠ l'.blk
  bas : Below G.B G.W w
  low : ∀ id o l, F id → h.get id = some o → o.own = true → R id = some l → G.B ≤ l.blk
  siz : G.B ≤ w.heap.size

/-- What one step does: names stay; new names lie in new blocks, or where a written one lay; old blocks stay but for those written. -/
structure Step (R : Ren) (w : World) (h : Tr AObj) (R' : Ren) (w' : World) (wr : List Nat) : Prop where
  mono : R.le R'
  newb : ∀ id l, R' id = some l → R id = none → id ∈ wr ∧ (w.heap.size ≤ l.blk ∨ ∃ id0 l0 o, id0 ∈ wr ∧ R id0 = some l0 ∧ l0.blk = l.blk ∧ h.get id0 = some o ∧ o.own = true)
  kp : Kp (fun k => ∃ id l o, id ∈ wr ∧ R id = some l ∧ l.blk = k ∧ h.get id = some o ∧ o.own = true) w w'

structure ARun (s s' : St) : Prop where
  frame : ∀ id, id ∉ s'.wr → s'.h.get id = s.h.get id
  keep : ∀ id o', s'.h.get id = some o' → o'.own = true → s.h.get id = none ∨ ∃ o, s.h.get id = some o ∧ o.own = true
  alive : ∀ id o', s'.h.get id = some o' → o'.live = true → s.h.get id = none ∨ ∃ o, s.h.get id = some o ∧ o.live = true
  dom : ∀ id, (s.h.get id).isSome = true → (s'.h.get id).isSome = true
  even : ∀ id, s.h.get id = none → (s'.h.get id).isSome = true → id % 2 = 0
  wr : ∀ id ∈ s.wr, id ∈ s'.wr
  rd : ∀ id ∈ s.rd, id ∈ s'.rd
  ob : ∀ q ∈ s.ob, q ∈ s'.ob

theorem ARun.refl (s : St) : ARun s s := ⟨fun _ _ => rfl, fun id o h k => .inr ⟨o, h, k⟩, fun id o h k => .inr ⟨o, h, k⟩, fun _ h => h, fun id h h' => (by rw [h] at h'; cases h'), fun _ h => h, fun _ h => h, fun _ h => h⟩
theorem ARun.trans {a b c : St} (h : ARun a b) (k : ARun b c) : ARun a c where
  frame := fun id hn => (k.frame id hn).trans (h.frame id (fun hm => hn (k.wr id hm)))
  keep := fun id o' ho hw => by
    rcases k.keep id o' ho hw with hb | ⟨o, hb, ow⟩
    · cases ha : a.h.get id with
      | none => exact .inl rfl
      | some x =>
        have := h.dom id (by simp [ha])
        rw [hb] at this
        cases this
    · exact h.keep id o hb ow
  alive := fun id o' ho hw => by
    rcases k.alive id o' ho hw with hb | ⟨o, hb, ow⟩
    · cases ha : a.h.get id with
      | none => exact .inl rfl
      | some x =>
        have := h.dom id (by simp [ha])
        rw [hb] at this
        cases this
    · exact h.alive id o hb ow
  dom := fun id hh => k.dom id (h.dom id hh)
  even := fun id ha hc => by
    cases hb : b.h.get id with
    | none => exact k.even id hb hc
    | some x => exact h.even id ha (by simp [hb])
  wr := fun id hh => k.wr id (h.wr id hh)
  rd := fun id hh => k.rd id (h.rd id hh)
  ob := fun q hh => k.ob q (h.ob q hh)

theorem Step.refl (R : Ren) (w : World) (h : Tr AObj) (wr : List Nat) : Step R w h R w wr :=
  ⟨.refl R, fun id l h1 h2 => (by rw [h1] at h2; cases h2), Kp.refl _ _⟩
theorem Step.more {R R' : Ren} {w w' : World} {h : Tr AObj} {wr wr' : List Nat} (k : Step R w h R' w' wr) (hs : ∀ id ∈ wr, id ∈ wr') : Step R w h R' w' wr' :=
  ⟨k.mono, fun id l h1 h2 => by
    obtain ⟨p, q⟩ := k.newb id l h1 h2
    refine ⟨hs _ p, q.imp_right ?_⟩
    rintro ⟨id0, l0, o, g1, g2⟩
    exact ⟨id0, l0, o, hs _ g1, g2⟩, k.kp.mono (by rintro x _ ⟨id, l, o, g1, g2⟩; exact ⟨id, l, o, hs _ g1, g2⟩)⟩
theorem Step.trans {P : Program} {G : Gd} {F : Nat → Prop} {R R1 R2 : Ren} {w w1 w2 : World} {s s1 : St} {wr : List Nat} (hS : Sat P G F R s.h w) (ha : ARun s s1) (hF : ∀ id ∈ wr, F id)
    (h : Step R w s.h R1 w1 wr) (k : Step R1 w1 s1.h R2 w2 wr) : Step R w s.h R2 w2 wr := by
  have key : ∀ id l o, id ∈ wr → R1 id = some l → s1.h.get id = some o → o.own = true → w.heap.size ≤ l.blk ∨ ∃ id0 l0 o, id0 ∈ wr ∧ R id0 = some l0 ∧ l0.blk = l.blk ∧ s.h.get id0 = some o ∧ o.own = true := by
    intro id l o hm hl ho hw
    cases hr : R id with
    | none => exact (h.newb id l hl hr).2
    | some l' =>
      have := h.mono id l' hr
      rw [hl] at this
      cases this
      rcases ha.keep id o ho hw with hn | ⟨o', ho', hw'⟩
      · rcases hS.dom id l (hF _ hm) hr with hd | hd
        · rw [hn] at hd; cases hd
        · have := ha.even id hn (by simp [ho]); omega
      · exact .inr ⟨id, l, o', hm, hr, rfl, ho', hw'⟩
  refine ⟨h.mono.trans k.mono, fun id l h1 h2 => ?_, h.kp.then_ k.kp ?_ |>.mono fun _ _ x => x⟩
  · cases hr : R1 id with
    | none =>
      obtain ⟨p, q⟩ := k.newb id l h1 hr
      refine ⟨p, ?_⟩
      rcases q with q | ⟨id0, l0, o, g1, g2, g3, g4, g5⟩
      · exact .inl (Nat.le_trans h.kp.size q)
      · rw [← g3]
        exact key id0 l0 o g1 g2 g4 g5
    | some l' =>
      have := k.mono id l' hr
      rw [h1] at this
      cases this
      exact h.newb id l hr h2
  · rintro x ⟨id, l, o, g1, g2, rfl, g4, g5⟩ hlt
    rcases key id l o g1 g2 g4 g5 with hh | ⟨id0, l0, o', q1, q2, q3, q4, q5⟩
    · omega
    · exact ⟨id0, l0, o', q1, q2, q3, q4, q5⟩

def Ren.upd (R : Ren) (id : Nat) (l : Loc) : Ren := fun k => if k = id then some l else R k
theorem Ren.upd_le {R : Ren} {id : Nat} {l : Loc} (h : R id = none) : R.le (R.upd id l) := by
  intro k l' hk
  unfold Ren.upd
  by_cases e : k = id
  · subst e; rw [h] at hk; cases hk
  · simp [e, hk]
theorem Ren.upd_same (R : Ren) (id : Nat) (l : Loc) : R.upd id l id = some l := by simp [Ren.upd]
theorem Ren.upd_ne (R : Ren) {id k : Nat} (l : Loc) (h : k ≠ id) : R.upd id l k = R k := by simp [Ren.upd, h]

section
variable {P : Program} {G : Gd} {F : Nat → Prop} {R : Ren} {w : World}

theorem Sat.heap' {h : Tr AObj} {w' : World} (hS : Sat P G F R h w) (he : w'.heap = w.heap) (hbb : w'.os = w.os ∧ w'.tape = w.tape ∧ w'.output = w.output) : Sat P G F R h w' :=
  ⟨fun id o hf hg => (hS.obj id o hf hg).keep (.refl R) (by rw [he]; exact Nat.le_refl _) fun l _ _ => by rw [he], hS.dom, hS.inj, ⟨hbb.1.trans hS.bas.os, hbb.2.1.trans hS.bas.tape, hbb.2.2.trans hS.bas.output, by rw [he]; exact hS.bas.size, fun k hk => by rw [he]; exact hS.bas.block k hk⟩, hS.low, by rw [he]; exact hS.siz⟩
/-- A new block under a new name. -/
theorem Sat.new {h : Tr AObj} (hS : Sat P G F R h w) {c : Nat} {o : AObj} {ob : Obj} {ext : Nat} (hF : F (2 * c)) (hn : h.get (2 * c) = none) (wr : List Nat)
    (ho : SatObj P (R.upd (2 * c) ⟨w.heap.size, 0, ext, undef⟩) (w.alloc ob) (2 * c) o) :
    R (2 * c) = none ∧ Sat P G F (R.upd (2 * c) ⟨w.heap.size, 0, ext, undef⟩) (h.set (2 * c) o) (w.alloc ob) ∧ Step R w h (R.upd (2 * c) ⟨w.heap.size, 0, ext, undef⟩) (w.alloc ob) (2 * c :: wr) := by
  have hr : R (2 * c) = none := by
    cases hr : R (2 * c) with
    | none => rfl
    | some l =>
      rcases hS.dom _ l hF hr with hd | hd
      · rw [hn] at hd; cases hd
      · omega
  have hle := Ren.upd_le (l := ⟨w.heap.size, 0, ext, undef⟩) hr
  have hblk : ∀ id o' l, F id → h.get id = some o' → o'.live = true → R id = some l → l.blk ≠ w.heap.size := by
    intro id o' l hf hg hlv hl
    have := (hS.obj id o' hf hg).lt' hl hlv
    omega
  refine ⟨hr, ⟨fun id o' hf hg => ?_, fun id l hf hl => ?_, ?_, hS.bas.alloc hS.siz _, fun id o1 l1 hf hg hw hl => ?_, by simp; have := hS.siz; omega⟩, ⟨hle, fun id l h1 h2 => ?_, (Kp.refl _ _).alloc _⟩⟩
  · rw [Tr.get_set] at hg
    by_cases e : 2 * c = id
    · rw [if_pos e] at hg
      cases hg
      rw [← e]
      exact ho
    · rw [if_neg e] at hg
      exact (hS.obj id o' hf hg).keep hle (by simp) fun l _ hlt => by rw [Below.heap_alloc _ _ _ hlt]
  · rw [Tr.get_set]
    by_cases e : 2 * c = id
    · simp [e]
    · rw [if_neg e]
      rw [Ren.upd_ne _ _ (Ne.symm e)] at hl
      exact hS.dom id l hf hl
  · intro id id' o1 o2 l1 l2 hf hf' hne hg1 hg2 hv1 hv2 hw hl1 hl2
    rw [Tr.get_set] at hg1 hg2
    by_cases e1 : 2 * c = id
    · by_cases e2 : 2 * c = id'
      · exact absurd (e1.symm.trans e2) hne
      · rw [if_neg e2] at hg2
        rw [Ren.upd_ne _ _ (Ne.symm e2)] at hl2
        rw [← e1, Ren.upd_same] at hl1
        cases hl1
        exact fun e => hblk id' o2 l2 hf' hg2 hv2 hl2 e.symm
    · rw [if_neg e1] at hg1
      rw [Ren.upd_ne _ _ (Ne.symm e1)] at hl1
      by_cases e2 : 2 * c = id'
      · rw [← e2, Ren.upd_same] at hl2
        cases hl2
        exact hblk id o1 l1 hf hg1 hv1 hl1
      · rw [if_neg e2] at hg2
        rw [Ren.upd_ne _ _ (Ne.symm e2)] at hl2
        exact hS.inj id id' o1 o2 l1 l2 hf hf' hne hg1 hg2 hv1 hv2 hw hl1 hl2
  · rw [Tr.get_set] at hg
    by_cases e : 2 * c = id
    · rw [← e, Ren.upd_same] at hl
      cases hl
      exact hS.siz
    · rw [if_neg e] at hg
      rw [Ren.upd_ne _ _ (Ne.symm e)] at hl
      exact hS.low id o1 l1 hf hg hw hl
  · by_cases e : id = 2 * c
    · subst e
      rw [Ren.upd_same] at h1
      cases h1
      exact ⟨by simp, .inl (Nat.le_refl _)⟩
    · rw [Ren.upd_ne _ _ e, h2] at h1
      cases h1

/-- A known block is written. -/
theorem Sat.write {h : Tr AObj} (hS : Sat P G F R h w) {id : Nat} {o o' : AObj} {l : Loc} {w' : World} (hF : F id) (hg : h.get id = some o) (hw : o.own = true) (hw' : o'.own = true) (hl : R id = some l) (wr : List Nat)
    (ho : SatObj P R w' id o') (hk : Kp (fun k => k = l.blk) w w') : Sat P G F R (h.set id o') w' ∧ Step R w h R w' (id :: wr) := by
  have hlive : ∀ {x : AObj}, x.own = true → x.live = true := by intro x hx; cases x <;> first | rfl | cases hx
  refine ⟨⟨fun k x hf hx => ?_, fun k l' hf hl' => ?_, fun k k' x x' m m' hf hf' hne hx hx' hv hv' hww hm hm' => ?_, Kp.below_of hS.bas hk hS.siz (fun i e => by rw [e]; exact hS.low id o l hF hg hw hl), fun k x m hf hx hxw hm => ?_, Nat.le_trans hS.siz hk.size⟩, ⟨.refl R, fun k l' h1 h2 => (by rw [h1] at h2; cases h2), hk.mono fun k _ e => ⟨id, l, o, by simp, hl, e.symm, hg, hw⟩⟩⟩
  · rw [Tr.get_set] at hx
    by_cases e : id = k
    · rw [if_pos e] at hx
      cases hx
      rw [← e]
      exact ho
    · rw [if_neg e] at hx
      by_cases hv : x.live = true
      · refine (hS.obj k x hf hx).keep (.refl R) hk.size fun l' hl' hlt => hk.block _ hlt ?_
        exact fun e' => hS.inj id k o x l l' hF hf e hg hx (hlive hw) hv (.inl hw) hl hl' e'.symm
      · exact (hS.obj k x hf hx).dull (.refl R) hv
  · rw [Tr.get_set]
    by_cases e : id = k
    · simp [e]
    · rw [if_neg e]
      exact hS.dom k l' hf hl'
  · rw [Tr.get_set] at hx hx'
    by_cases e : id = k
    · by_cases e' : id = k'
      · exact absurd (e.symm.trans e') hne
      · rw [if_neg e'] at hx'
        subst e
        exact hS.inj id k' o x' m m' hf hf' hne hg hx' (hlive hw) hv' (.inl hw) hm hm'
    · rw [if_neg e] at hx
      by_cases e' : id = k'
      · subst e'
        exact hS.inj k id x o m m' hf hf' hne hx hg hv (hlive hw) (.inr hw) hm hm'
      · rw [if_neg e'] at hx'
        exact hS.inj k k' x x' m m' hf hf' hne hx hx' hv hv' hww hm hm'
  · rw [Tr.get_set] at hx
    by_cases e : id = k
    · subst e
      exact hS.low id o m hF hg hw hm
    · rw [if_neg e] at hx
      exact hS.low k x m hf hx hxw hm

/-- A new name for nothing. -/
theorem Sat.phantom {h : Tr AObj} (hS : Sat P G F R h w) {c : Nat} {l : Loc} (hF : F (2 * c)) (hn : h.get (2 * c) = none) (hl : w.heap.size ≤ l.blk) (wr : List Nat) :
    R (2 * c) = none ∧ Sat P G F (R.upd (2 * c) l) (h.set (2 * c) .dead) w ∧ Step R w h (R.upd (2 * c) l) w (2 * c :: wr) := by
  have hr : R (2 * c) = none := by
    cases hr : R (2 * c) with
    | none => rfl
    | some l =>
      rcases hS.dom _ l hF hr with hd | hd
      · rw [hn] at hd; cases hd
      · omega
  have hle := Ren.upd_le (l := l) hr
  refine ⟨hr, ⟨fun id o' hf hg => ?_, fun id l' hf hl' => ?_, ?_, hS.bas, fun id o1 l1 hf hg hw hl1 => ?_, hS.siz⟩, ⟨hle, fun id l' h1 h2 => ?_, Kp.refl _ _⟩⟩
  · rw [Tr.get_set] at hg
    by_cases e : 2 * c = id
    · rw [if_pos e] at hg
      cases hg
      trivial
    · rw [if_neg e] at hg
      exact (hS.obj id o' hf hg).keep hle (Nat.le_refl _) fun _ _ _ => rfl
  · rw [Tr.get_set]
    by_cases e : 2 * c = id
    · simp [e]
    · rw [if_neg e]
      rw [Ren.upd_ne _ _ (Ne.symm e)] at hl'
      exact hS.dom id l' hf hl'
  · intro id id' o1 o2 l1 l2 hf hf' hne hg1 hg2 hv1 hv2 hw hl1 hl2
    rw [Tr.get_set] at hg1 hg2
    by_cases e1 : 2 * c = id
    · rw [if_pos e1] at hg1
      cases hg1
      cases hv1
    · rw [if_neg e1] at hg1
      rw [Ren.upd_ne _ _ (Ne.symm e1)] at hl1
      by_cases e2 : 2 * c = id'
      · rw [if_pos e2] at hg2
        cases hg2
        cases hv2
      · rw [if_neg e2] at hg2
        rw [Ren.upd_ne _ _ (Ne.symm e2)] at hl2
        exact hS.inj id id' o1 o2 l1 l2 hf hf' hne hg1 hg2 hv1 hv2 hw hl1 hl2
  · rw [Tr.get_set] at hg
    by_cases e : 2 * c = id
    · rw [if_pos e] at hg
      cases hg
      cases hw
    · rw [if_neg e] at hg
      rw [Ren.upd_ne _ _ (Ne.symm e)] at hl1
      exact hS.low id o1 l1 hf hg hw hl1
  · by_cases e : id = 2 * c
    · subst e
      rw [Ren.upd_same] at h1
      cases h1
      exact ⟨by simp, .inl hl⟩
    · rw [Ren.upd_ne _ _ e, h2] at h1
      cases h1

/-- A new name for a place in a known block that is being written. -/
theorem Sat.alias {h : Tr AObj} (hS : Sat P G F R h w) {id c : Nat} {o o' : AObj} {l l' : Loc} (hF1 : F id) (hF : F (2 * c)) (hn : h.get (2 * c) = none) (ho : h.get id = some o) (how : o.own = true) (hl0 : R id = some l) (hb : l'.blk = l.blk) (hd : o'.live = false)
    (hso : SatObj P (R.upd (2 * c) l') w (2 * c) o') (wr : List Nat) (hin : id ∈ wr) :
    R (2 * c) = none ∧ Sat P G F (R.upd (2 * c) l') (h.set (2 * c) o') w ∧ Step R w h (R.upd (2 * c) l') w (2 * c :: wr) := by
  have hr : R (2 * c) = none := by
    cases hr : R (2 * c) with
    | none => rfl
    | some l =>
      rcases hS.dom _ l hF hr with hd | hd
      · rw [hn] at hd; cases hd
      · omega
  have hnow : o'.own = false := by cases o' <;> first | rfl | cases hd
  have hle := Ren.upd_le (l := l') hr
  refine ⟨hr, ⟨fun id o' hf hg => ?_, fun id l' hf hl' => ?_, ?_, hS.bas, fun id o1 l1 hf hg hw hl1 => ?_, hS.siz⟩, ⟨hle, fun id l' h1 h2 => ?_, Kp.refl _ _⟩⟩
  · rw [Tr.get_set] at hg
    by_cases e : 2 * c = id
    · rw [if_pos e] at hg
      cases hg
      rw [← e]
      exact hso
    · rw [if_neg e] at hg
      exact (hS.obj id o' hf hg).keep hle (Nat.le_refl _) fun _ _ _ => rfl
  · rw [Tr.get_set]
    by_cases e : 2 * c = id
    · simp [e]
    · rw [if_neg e]
      rw [Ren.upd_ne _ _ (Ne.symm e)] at hl'
      exact hS.dom id l' hf hl'
  · intro id id' o1 o2 l1 l2 hf hf' hne hg1 hg2 hv1 hv2 hw hl1 hl2
    rw [Tr.get_set] at hg1 hg2
    by_cases e1 : 2 * c = id
    · rw [if_pos e1] at hg1
      cases hg1
      rw [hd] at hv1
      cases hv1
    · rw [if_neg e1] at hg1
      rw [Ren.upd_ne _ _ (Ne.symm e1)] at hl1
      by_cases e2 : 2 * c = id'
      · rw [if_pos e2] at hg2
        cases hg2
        rw [hd] at hv2
        cases hv2
      · rw [if_neg e2] at hg2
        rw [Ren.upd_ne _ _ (Ne.symm e2)] at hl2
        exact hS.inj id id' o1 o2 l1 l2 hf hf' hne hg1 hg2 hv1 hv2 hw hl1 hl2
  · rw [Tr.get_set] at hg
    by_cases e : 2 * c = id
    · rw [if_pos e] at hg
      cases hg
      rw [hnow] at hw
      cases hw
    · rw [if_neg e] at hg
      rw [Ren.upd_ne _ _ (Ne.symm e)] at hl1
      exact hS.low id o1 l1 hf hg hw hl1
  · by_cases e : id = 2 * c
    · subst e
      rw [Ren.upd_same] at h1
      cases h1
      exact ⟨by simp, .inr ⟨_, l, o, List.mem_cons_of_mem _ hin, hl0, hb.symm, ho, how⟩⟩
    · rw [Ren.upd_ne _ _ e, h2] at h1
      cases h1

/-- A new name for a truth value. -/
theorem Sat.truth {h : Tr AObj} (hS : Sat P G F R h w) {c : Nat} (b : Bool) (hF : F (2 * c)) (hn : h.get (2 * c) = none) (wr : List Nat) :
    R (2 * c) = none ∧ Sat P G F (R.upd (2 * c) ⟨w.heap.size, 0, 0, .bool b⟩) (h.set (2 * c) .isB) w ∧ Step R w h (R.upd (2 * c) ⟨w.heap.size, 0, 0, .bool b⟩) w (2 * c :: wr) := by
  obtain ⟨h1, h2, h3⟩ := hS.phantom (l := ⟨w.heap.size, 0, 0, .bool b⟩) hF hn (Nat.le_refl _) wr
  refine ⟨h1, ⟨fun id o hf hg => ?_, fun id l hf hl => ?_, fun id id' o o' l l' f1 f2 hne g1 g2 v1 v2 => ?_, h2.bas, fun id o l hf hg hw => ?_, h2.siz⟩, h3⟩
  · rw [Tr.get_set] at hg
    by_cases e : 2 * c = id
    · rw [if_pos e] at hg
      cases hg
      exact ⟨_, b, by rw [← e]; exact Ren.upd_same _ _ _, rfl⟩
    · rw [if_neg e] at hg
      exact h2.obj id o hf (by rw [Tr.get_set, if_neg e]; exact hg)
  · have := h2.dom id l hf hl
    rw [Tr.get_set] at this ⊢
    by_cases e : 2 * c = id
    · simp [e]
    · rw [if_neg e] at this ⊢
      exact this
  · rw [Tr.get_set] at g1 g2
    by_cases e : 2 * c = id
    · rw [if_pos e] at g1; cases g1; cases v1
    · rw [if_neg e] at g1
      by_cases e' : 2 * c = id'
      · rw [if_pos e'] at g2; cases g2; cases v2
      · rw [if_neg e'] at g2
        exact h2.inj id id' o o' l l' f1 f2 hne (by rw [Tr.get_set, if_neg e]; exact g1) (by rw [Tr.get_set, if_neg e']; exact g2) v1 v2
  · rw [Tr.get_set] at hg
    by_cases e : 2 * c = id
    · rw [if_pos e] at hg; cases hg; cases hw
    · rw [if_neg e] at hg
      exact h2.low id o l hf (by rw [Tr.get_set, if_neg e]; exact hg) hw
end
end Go.Proofs.Ytahopbjoaoiknaa

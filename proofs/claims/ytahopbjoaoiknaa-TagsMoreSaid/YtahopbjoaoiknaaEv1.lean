/- An evaluator over named blocks: its words. Nothing of the program stands here. -/
import Derived.Test.YtahopbjoaoiknaaMp
import Derived.Orders
import Derived.KernelRfl
namespace Go.Proofs.Ytahopbjoaoiknaa
set_option linter.unusedVariables false
set_option linter.unusedSimpArgs false
open Go.RowKit

/-- Where a named block lies: its number, where its cells begin, how much more capacity it has than is known; or what value a name stands for. -/
structure Loc where
  blk : Nat
  off : Nat
  ext : Nat
  val : Value

abbrev Ren := Nat → Option Loc

mutual
/-- A value over names, and what it is in a world. -/
def VR (R : Ren) : Value → Value → Prop
  | .pointer (some a), v => ∃ l, R a.block = some l ∧ v = .pointer (some ⟨l.blk, l.off + a.off, a.spot⟩)
  | .slice (some a) n c, v => ∃ l, R a.block = some l ∧ v = .slice (some ⟨l.blk, l.off + a.off, a.spot⟩) n (c + l.ext)
  | .map (some r), v => ∃ l, R r = some l ∧ v = .map (some l.blk)
  | .chan (some r), v => ∃ l, R r = some l ∧ v = l.val ∧ l.val.oneCell' = true
  | .func fn f c, v => ∃ f' c', VRa R f f' ∧ VRa R c c' ∧ v = .func fn f' c'
  | .iface t x, v => ∃ x', VR R x x' ∧ v = .iface t x'
  | .agg a, v => ∃ a', VRa R a a' ∧ v = .agg a'
  | .tuple a, v => ∃ a', VRa R a a' ∧ v = .tuple a'
  | x, v => v = x
def VRa (R : Ren) : Array Value → Array Value → Prop
  | ⟨l⟩, a => ∃ l', VRs R l l' ∧ a = ⟨l'⟩
def VRs (R : Ren) : List Value → List Value → Prop
  | [], l => l = []
  | x :: xs, l => ∃ y ys, VR R x y ∧ VRs R xs ys ∧ l = y :: ys
end

mutual
/-- No names in it. -/
def flat : Value → Bool
  | .pointer (some _) => false
  | .slice (some _) _ _ => false
  | .map (some _) => false
  | .chan (some _) => false
  | .func _ f c => flatA f && flatA c
  | .iface _ x => flat x
  | .agg a => flatA a
  | .tuple a => flatA a
  | _ => true
def flatA : Array Value → Bool
  | ⟨l⟩ => flatL l
def flatL : List Value → Bool
  | [] => true
  | x :: xs => flat x && flatL xs
end

def Ren.le (R R' : Ren) : Prop := ∀ id l, R id = some l → R' id = some l
theorem Ren.le.refl (R : Ren) : R.le R := fun _ _ h => h
theorem Ren.le.trans {R S T : Ren} (h : R.le S) (k : S.le T) : R.le T := fun _ _ hh => k _ _ (h _ _ hh)

mutual
theorem VR.mono {R R' : Ren} (h : R.le R') : ∀ {x v : Value}, VR R x v → VR R' x v
  | .pointer (some a), v, ⟨l, h1, h2⟩ => ⟨l, h _ _ h1, h2⟩
  | .pointer none, v, hh => hh
  | .slice (some a) n c, v, ⟨l, h1, h2⟩ => ⟨l, h _ _ h1, h2⟩
  | .slice none n c, v, hh => hh
  | .map (some r), v, ⟨l, h1, h2⟩ => ⟨l, h _ _ h1, h2⟩
  | .map none, v, hh => hh
  | .chan (some r), v, ⟨l, h1, h2, h3⟩ => ⟨l, h _ _ h1, h2, h3⟩
  | .chan none, v, hh => hh
  | .func fn f c, v, ⟨f', c', h1, h2, h3⟩ => ⟨f', c', VRa.mono h h1, VRa.mono h h2, h3⟩
  | .iface t x, v, ⟨x', h1, h2⟩ => ⟨x', VR.mono h h1, h2⟩
  | .agg a, v, ⟨a', h1, h2⟩ => ⟨a', VRa.mono h h1, h2⟩
  | .tuple a, v, ⟨a', h1, h2⟩ => ⟨a', VRa.mono h h1, h2⟩
  | .bool _, v, hh => hh
  | .int _ _, v, hh => hh
  | .float _ _, v, hh => hh
  | .complex _ _ _, v, hh => hh
  | .string _, v, hh => hh
  | .nilFunc, v, hh => hh
  | .nilIface, v, hh => hh
theorem VRa.mono {R R' : Ren} (h : R.le R') : ∀ {x v : Array Value}, VRa R x v → VRa R' x v
  | ⟨l⟩, v, ⟨l', h1, h2⟩ => ⟨l', VRs.mono h h1, h2⟩
theorem VRs.mono {R R' : Ren} (h : R.le R') : ∀ {x v : List Value}, VRs R x v → VRs R' x v
  | [], v, hh => hh
  | x :: xs, v, ⟨y, ys, h1, h2, h3⟩ => ⟨y, ys, VR.mono h h1, VRs.mono h h2, h3⟩
end

mutual
theorem VR.flat {R : Ren} : ∀ {x v : Value}, flat x = true → (VR R x v ↔ v = x)
  | .pointer (some a), v, h => by simp [Go.Proofs.Ytahopbjoaoiknaa.flat] at h
  | .pointer none, v, h => Iff.rfl
  | .slice (some a) n c, v, h => by simp [Go.Proofs.Ytahopbjoaoiknaa.flat] at h
  | .slice none n c, v, h => Iff.rfl
  | .map (some r), v, h => by simp [Go.Proofs.Ytahopbjoaoiknaa.flat] at h
  | .map none, v, h => Iff.rfl
  | .chan (some r), v, h => by simp [Go.Proofs.Ytahopbjoaoiknaa.flat] at h
  | .chan none, v, h => Iff.rfl
  | .func fn f c, v, h => by
    simp only [Go.Proofs.Ytahopbjoaoiknaa.flat, Bool.and_eq_true] at h
    simp only [VR]
    constructor
    · rintro ⟨f', c', h1, h2, rfl⟩
      rw [VRa.flat h.1] at h1
      rw [VRa.flat h.2] at h2
      rw [h1, h2]
    · rintro rfl
      exact ⟨f, c, (VRa.flat h.1).2 rfl, (VRa.flat h.2).2 rfl, rfl⟩
  | .iface t x, v, h => by
    simp only [Go.Proofs.Ytahopbjoaoiknaa.flat] at h
    simp only [VR]
    constructor
    · rintro ⟨x', h1, rfl⟩
      rw [VR.flat h] at h1
      rw [h1]
    · rintro rfl
      exact ⟨x, (VR.flat h).2 rfl, rfl⟩
  | .agg a, v, h => by
    simp only [Go.Proofs.Ytahopbjoaoiknaa.flat] at h
    simp only [VR]
    constructor
    · rintro ⟨x', h1, rfl⟩
      rw [VRa.flat h] at h1
      rw [h1]
    · rintro rfl
      exact ⟨a, (VRa.flat h).2 rfl, rfl⟩
  | .tuple a, v, h => by
    simp only [Go.Proofs.Ytahopbjoaoiknaa.flat] at h
    simp only [VR]
    constructor
    · rintro ⟨x', h1, rfl⟩
      rw [VRa.flat h] at h1
      rw [h1]
    · rintro rfl
      exact ⟨a, (VRa.flat h).2 rfl, rfl⟩
  | .bool _, v, h => Iff.rfl
  | .int _ _, v, h => Iff.rfl
  | .float _ _, v, h => Iff.rfl
  | .complex _ _ _, v, h => Iff.rfl
  | .string _, v, h => Iff.rfl
  | .nilFunc, v, h => Iff.rfl
  | .nilIface, v, h => Iff.rfl
theorem VRa.flat {R : Ren} : ∀ {x v : Array Value}, flatA x = true → (VRa R x v ↔ v = x)
  | ⟨l⟩, v, h => by
    simp only [flatA] at h
    simp only [VRa]
    constructor
    · rintro ⟨x', h1, rfl⟩
      rw [VRs.flat h] at h1
      rw [h1]
    · rintro rfl
      exact ⟨l, (VRs.flat h).2 rfl, rfl⟩
theorem VRs.flat {R : Ren} : ∀ {x v : List Value}, flatL x = true → (VRs R x v ↔ v = x)
  | [], v, h => Iff.rfl
  | x :: xs, v, h => by
    simp only [flatL, Bool.and_eq_true] at h
    simp only [VRs]
    constructor
    · rintro ⟨y, ys, h1, h2, rfl⟩
      rw [VR.flat h.1] at h1
      rw [VRs.flat h.2] at h2
      rw [h1, h2]
    · rintro rfl
      exact ⟨x, xs, (VR.flat h.1).2 rfl, (VRs.flat h.2).2 rfl, rfl⟩
end

theorem VRs.length {R : Ren} : ∀ {x v : List Value}, VRs R x v → v.length = x.length
  | [], v, h => by simp only [VRs] at h; simp [h]
  | x :: xs, v, ⟨y, ys, h1, h2, h3⟩ => by subst h3; simp [VRs.length h2]
theorem VRs.get {R : Ren} : ∀ {x v : List Value} {j : Nat} {a : Value}, VRs R x v → x[j]? = some a → ∃ b, v[j]? = some b ∧ VR R a b
  | [], v, j, a, h, e => by simp at e
  | x :: xs, v, 0, a, ⟨y, ys, h1, h2, h3⟩, e => by
    subst h3
    simp at e
    subst e
    exact ⟨y, by simp, h1⟩
  | x :: xs, v, j + 1, a, ⟨y, ys, h1, h2, h3⟩, e => by
    subst h3
    simp at e
    obtain ⟨b, hb, hv⟩ := VRs.get h2 e
    exact ⟨b, by simpa using hb, hv⟩
theorem VRs.set {R : Ren} : ∀ {x v : List Value} {j : Nat} {a b : Value}, VRs R x v → VR R a b → VRs R (x.set j a) (v.set j b)
  | [], v, j, a, b, h, e => by simp only [VRs] at h; subst h; simp [VRs]
  | x :: xs, v, 0, a, b, ⟨y, ys, h1, h2, h3⟩, e => by
    subst h3
    exact ⟨b, ys, e, h2, rfl⟩
  | x :: xs, v, j + 1, a, b, ⟨y, ys, h1, h2, h3⟩, e => by
    subst h3
    exact ⟨y, ys.set j b, h1, VRs.set h2 e, rfl⟩
theorem VRs.append {R : Ren} : ∀ {x v x' v' : List Value}, VRs R x v → VRs R x' v' → VRs R (x ++ x') (v ++ v')
  | [], v, x', v', h, h' => by simp only [VRs] at h; subst h; simpa using h'
  | x :: xs, v, x', v', ⟨y, ys, h1, h2, h3⟩, h' => by
    subst h3
    exact ⟨y, ys ++ v', h1, VRs.append h2 h', rfl⟩
theorem VRs.take {R : Ren} : ∀ {x v : List Value} (n : Nat), VRs R x v → VRs R (x.take n) (v.take n)
  | [], v, n, h => by simp only [VRs] at h; subst h; simp [VRs]
  | x :: xs, v, 0, h => by simp [VRs]
  | x :: xs, v, n + 1, ⟨y, ys, h1, h2, h3⟩ => by
    subst h3
    exact ⟨y, ys.take n, h1, VRs.take n h2, rfl⟩
theorem VRs.drop {R : Ren} : ∀ {x v : List Value} (n : Nat), VRs R x v → VRs R (x.drop n) (v.drop n)
  | [], v, n, h => by simp only [VRs] at h; subst h; simp [VRs]
  | x :: xs, v, 0, h => by simpa using h
  | x :: xs, v, n + 1, ⟨y, ys, h1, h2, h3⟩ => by
    subst h3
    simpa using VRs.drop n h2
theorem VRs.of_get {R : Ren} : ∀ {x v : List Value}, v.length = x.length → (∀ (j : Nat) (a : Value), x[j]? = some a → ∃ b, v[j]? = some b ∧ VR R a b) → VRs R x v
  | [], v, h, _ => by simpa [VRs] using List.eq_nil_of_length_eq_zero h
  | x :: xs, [], h, _ => by simp at h
  | x :: xs, y :: ys, h, hh => by
    obtain ⟨b, hb, hv⟩ := hh 0 x (by simp)
    simp at hb
    subst hb
    exact ⟨y, ys, hv, VRs.of_get (by simpa using h) (fun j a e => by simpa using hh (j + 1) a (by simpa using e)), rfl⟩

/-- A row of things by their numbers, as a tree. -/
inductive Tr (α : Type) where
  | nil
  | node (x : Option α) (l r : Tr α)

def Tr.getF {α : Type} : Tr α → Nat → Nat → Option α
  | .nil, _, _ => none
  | .node x _ _, _, 0 => x
  | .node _ _ _, 0, _ + 1 => none
  | .node _ l r, f + 1, i + 1 => match Nat.beq (i % 2) 0 with
    | true => l.getF f (i / 2)
    | false => r.getF f (i / 2)
def Tr.setF {α : Type} : Tr α → Nat → Nat → α → Tr α
  | .nil, _, 0, a => .node (some a) .nil .nil
  | .node _ l r, _, 0, a => .node (some a) l r
  | t, 0, _ + 1, _ => t
  | .nil, f + 1, i + 1, a => match Nat.beq (i % 2) 0 with
    | true => .node none (Tr.setF .nil f (i / 2) a) .nil
    | false => .node none .nil (Tr.setF .nil f (i / 2) a)
  | .node x l r, f + 1, i + 1, a => match Nat.beq (i % 2) 0 with
    | true => .node x (Tr.setF l f (i / 2) a) r
    | false => .node x l (Tr.setF r f (i / 2) a)
def Tr.get {α : Type} (t : Tr α) (i : Nat) : Option α := t.getF (i.log2 + 1) i
def Tr.set {α : Type} (t : Tr α) (i : Nat) (a : α) : Tr α := t.setF (i.log2 + 1) i a

theorem Tr.getF_fuel {α : Type} : ∀ (f g : Nat) (t : Tr α) (j : Nat), j < 2 ^ f → j < 2 ^ g → t.getF f j = t.getF g j
  | _, _, .nil, _, _, _ => by simp [Tr.getF]
  | _, _, .node x l r, 0, _, _ => by simp [Tr.getF]
  | 0, _, .node x l r, j + 1, h, _ => by simp at h
  | _ + 1, 0, .node x l r, j + 1, _, h => by simp at h
  | f + 1, g + 1, .node x l r, j + 1, h, h' => by
    have h1 : j / 2 < 2 ^ f := by rw [Nat.pow_succ] at h; omega
    have h2 : j / 2 < 2 ^ g := by rw [Nat.pow_succ] at h'; omega
    simp only [Tr.getF]
    split
    · exact Tr.getF_fuel f g l _ h1 h2
    · exact Tr.getF_fuel f g r _ h1 h2
theorem Tr.setF_fuel {α : Type} (a : α) : ∀ (f g : Nat) (t : Tr α) (j : Nat), j < 2 ^ f → j < 2 ^ g → t.setF f j a = t.setF g j a
  | _, _, .nil, 0, _, _ => by simp [Tr.setF]
  | _, _, .node x l r, 0, _, _ => by simp [Tr.setF]
  | 0, _, t, j + 1, h, _ => by simp at h
  | _ + 1, 0, t, j + 1, _, h => by simp at h
  | f + 1, g + 1, .nil, j + 1, h, h' => by
    have h1 : j / 2 < 2 ^ f := by rw [Nat.pow_succ] at h; omega
    have h2 : j / 2 < 2 ^ g := by rw [Nat.pow_succ] at h'; omega
    simp only [Tr.setF]
    rw [Tr.setF_fuel a f g .nil _ h1 h2]
  | f + 1, g + 1, .node x l r, j + 1, h, h' => by
    have h1 : j / 2 < 2 ^ f := by rw [Nat.pow_succ] at h; omega
    have h2 : j / 2 < 2 ^ g := by rw [Nat.pow_succ] at h'; omega
    simp only [Tr.setF]
    rw [Tr.setF_fuel a f g l _ h1 h2, Tr.setF_fuel a f g r _ h1 h2]
theorem Tr.getF_setF {α : Type} (a : α) : ∀ (f : Nat) (t : Tr α) (i j : Nat), i < 2 ^ f → j < 2 ^ f → (t.setF f i a).getF f j = if i = j then some a else t.getF f j
  | _, .nil, 0, 0, _, _ => by simp [Tr.setF, Tr.getF]
  | _, .node x l r, 0, 0, _, _ => by simp [Tr.setF, Tr.getF]
  | 0, t, i + 1, j, h, _ => by simp at h
  | 0, t, i, j + 1, _, h => by simp at h
  | f + 1, .nil, 0, j + 1, _, _ => by
    simp only [Tr.setF, Tr.getF]
    split <;> simp
  | f + 1, .node x l r, 0, j + 1, _, _ => by simp [Tr.setF, Tr.getF]
  | f + 1, .nil, i + 1, 0, _, _ => by
    simp only [Tr.setF]
    split <;> simp [Tr.getF]
  | f + 1, .node x l r, i + 1, 0, _, _ => by
    simp only [Tr.setF]
    split <;> simp [Tr.getF]
  | f + 1, .nil, i + 1, j + 1, h, h' => by
    have h1 : i / 2 < 2 ^ f := by rw [Nat.pow_succ] at h; omega
    have h2 : j / 2 < 2 ^ f := by rw [Nat.pow_succ] at h'; omega
    have ih := Tr.getF_setF a f .nil (i / 2) (j / 2) h1 h2
    simp only [Tr.setF]
    cases hi : Nat.beq (i % 2) 0 <;> cases hj : Nat.beq (j % 2) 0 <;> simp only [Tr.getF, hj]
    · rw [ih]
      replace hi := Nat.ne_of_beq_eq_false hi
      replace hj := Nat.ne_of_beq_eq_false hj
      have : (i / 2 = j / 2) ↔ (i = j) := by omega
      simp [this, Tr.getF]
    · have : i ≠ j := by rintro rfl; rw [hi] at hj; cases hj
      simp [this]
    · have : i ≠ j := by rintro rfl; rw [hi] at hj; cases hj
      simp [this]
    · rw [ih]
      replace hi := Nat.eq_of_beq_eq_true hi
      replace hj := Nat.eq_of_beq_eq_true hj
      have : (i / 2 = j / 2) ↔ (i = j) := by omega
      simp [this, Tr.getF]
  | f + 1, .node x l r, i + 1, j + 1, h, h' => by
    have h1 : i / 2 < 2 ^ f := by rw [Nat.pow_succ] at h; omega
    have h2 : j / 2 < 2 ^ f := by rw [Nat.pow_succ] at h'; omega
    have ihl := Tr.getF_setF a f l (i / 2) (j / 2) h1 h2
    have ihr := Tr.getF_setF a f r (i / 2) (j / 2) h1 h2
    simp only [Tr.setF]
    cases hi : Nat.beq (i % 2) 0 <;> cases hj : Nat.beq (j % 2) 0 <;> simp only [Tr.getF, hj]
    · rw [ihr]
      replace hi := Nat.ne_of_beq_eq_false hi
      replace hj := Nat.ne_of_beq_eq_false hj
      have : (i / 2 = j / 2) ↔ (i = j) := by omega
      simp [this]
    · have : i ≠ j := by rintro rfl; rw [hi] at hj; cases hj
      simp [this]
    · have : i ≠ j := by rintro rfl; rw [hi] at hj; cases hj
      simp [this]
    · rw [ihl]
      replace hi := Nat.eq_of_beq_eq_true hi
      replace hj := Nat.eq_of_beq_eq_true hj
      have : (i / 2 = j / 2) ↔ (i = j) := by omega
      simp [this]
theorem Tr.get_set {α : Type} (t : Tr α) (i j : Nat) (a : α) : (t.set i a).get j = if i = j then some a else t.get j := by
  have hi : i < 2 ^ (i.log2 + 1) := Nat.lt_log2_self
  have hj : j < 2 ^ (j.log2 + 1) := Nat.lt_log2_self
  have h1 : i < 2 ^ (max (i.log2 + 1) (j.log2 + 1)) := Nat.lt_of_lt_of_le hi (Nat.pow_le_pow_right (by omega) (by omega))
  have h2 : j < 2 ^ (max (i.log2 + 1) (j.log2 + 1)) := Nat.lt_of_lt_of_le hj (Nat.pow_le_pow_right (by omega) (by omega))
  unfold Tr.get Tr.set
  rw [Tr.setF_fuel a _ _ t i hi h1, Tr.getF_fuel _ _ _ j hj h2, Tr.getF_fuel _ _ t j hj h2, Tr.getF_setF a _ t i j h1 h2]
theorem Tr.get_nil {α : Type} (i : Nat) : (Tr.nil : Tr α).get i = none := by simp [Tr.get, Tr.getF]
end Go.Proofs.Ytahopbjoaoiknaa

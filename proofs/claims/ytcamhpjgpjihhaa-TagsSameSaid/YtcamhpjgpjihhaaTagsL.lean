/- Tags: what putting in order computes, as lists: each once, rising; the reference's way by insertion tells the same. No program stands here. -/
import Derived.Test.YtcamhpjgpjihhaaTags6
namespace Go.Proofs.Ytcamhpjgpjihhaa
open Go.RowKit

abbrev Bs := List UInt8

theorem bs_lt_of_le {a b : Bs} (h : a ≤ b) (hn : a ≠ b) : a < b := by
  rcases Classical.em (a < b) with h1 | h1
  · exact h1
  · exact absurd (List.le_antisymm h (List.not_lt.1 h1)) hn

theorem rise_ext : ∀ {a b : List Bs}, a.Pairwise (· < ·) → b.Pairwise (· < ·) → (∀ x, x ∈ a ↔ x ∈ b) → a = b
  | [], [], _, _, _ => rfl
  | [], y :: b, _, _, h => absurd ((h y).2 (by simp)) (by simp)
  | x :: a, [], _, _, h => absurd ((h x).1 (by simp)) (by simp)
  | x :: a, y :: b, ha, hb, h => by
    obtain ⟨ha1, ha2⟩ := List.pairwise_cons.1 ha
    obtain ⟨hb1, hb2⟩ := List.pairwise_cons.1 hb
    have hxy : x = y := by
      rcases Classical.em (x = y) with e | e
      · exact e
      · have h1 : x ∈ b := by
          have := (h x).1 (by simp)
          simp [e] at this
          exact this
        have h2 : y ∈ a := by
          have := (h y).2 (by simp)
          simp [Ne.symm e] at this
          exact this
        exact absurd (List.lt_trans (hb1 x h1) (ha1 y h2)) (List.lt_irrefl _)
    subst hxy
    have := rise_ext ha2 hb2 (fun z => by
      constructor
      · intro hz
        have := (h z).1 (by simp [hz])
        rcases List.mem_cons.1 this with e | e
        · exact absurd (e ▸ ha1 z hz) (List.lt_irrefl _)
        · exact e
      · intro hz
        have := (h z).2 (by simp [hz])
        rcases List.mem_cons.1 this with e | e
        · exact absurd (e ▸ hb1 z hz) (List.lt_irrefl _)
        · exact e)
    rw [this]

theorem comp_mem (d : Array Bs) (x : Bs) : ∀ m, x ∈ Lib.compactUpTo d m ↔ ∃ j, j < m ∧ d[j]! = x
  | 0 => by simp [Lib.compactUpTo]
  | m + 1 => by
    rw [Lib.compactUpTo_succ, List.mem_append, comp_mem d x m]
    by_cases hk : Lib.keeps d m = true
    · rw [if_pos hk]
      constructor
      · rintro (⟨j, hj, rfl⟩ | h)
        · exact ⟨j, by omega, rfl⟩
        · exact ⟨m, by omega, by simpa using (List.mem_singleton.1 h).symm⟩
      · rintro ⟨j, hj, rfl⟩
        by_cases e : j = m
        · subst e; exact .inr (by simp)
        · exact .inl ⟨j, by omega, rfl⟩
    · rw [if_neg hk]
      have hk' : ¬ (m = 0 ∨ d[m]! ≠ d[m - 1]!) := by simpa [Lib.keeps] using hk
      simp only [not_or, Classical.not_not, ne_eq] at hk'
      constructor
      · rintro (⟨j, hj, rfl⟩ | h)
        · exact ⟨j, by omega, rfl⟩
        · simp at h
      · rintro ⟨j, hj, rfl⟩
        by_cases e : j = m
        · subst e; exact .inl ⟨j - 1, by omega, hk'.2.symm⟩
        · exact .inl ⟨j, by omega, rfl⟩

theorem comp_rise (d : Array Bs) (hs : ∀ i j, i < j → j < d.size → d[i]! ≤ d[j]!) : ∀ m, m ≤ d.size → (Lib.compactUpTo d m).Pairwise (· < ·)
  | 0, _ => by simp [Lib.compactUpTo]
  | m + 1, hm => by
    rw [Lib.compactUpTo_succ, List.pairwise_append]
    refine ⟨comp_rise d hs m (by omega), by split <;> simp, ?_⟩
    intro x hx y hy
    by_cases hk : Lib.keeps d m = true
    · rw [if_pos hk] at hy
      obtain rfl := List.mem_singleton.1 hy
      obtain ⟨j, hj, rfl⟩ := (comp_mem d x m).1 hx
      have hk' : m = 0 ∨ d[m]! ≠ d[m - 1]! := by simpa [Lib.keeps] using hk
      have hne : d[m]! ≠ d[m - 1]! := by
        rcases hk' with h | h
        · omega
        · exact h
      have h1 : d[m - 1]! < d[m]! := bs_lt_of_le (hs (m - 1) m (by omega) (by omega)) (Ne.symm hne)
      by_cases e : j = m - 1
      · rw [e]; exact h1
      · have h2 := hs j (m - 1) (by omega) (by omega)
        rcases Classical.em (d[j]! = d[m - 1]!) with e | e
        · rw [e]; exact h1
        · exact List.lt_trans (bs_lt_of_le h2 e) h1
    · rw [if_neg hk] at hy
      simp at hy

/-- The bytes' lists in order, each once. -/
def sortB (l : List Bs) : List Bs := Lib.compact (l.mergeSort fun x y => decide (x ≤ y))

theorem sortB_mem (l : List Bs) (x : Bs) : x ∈ sortB l ↔ x ∈ l := by
  unfold sortB Lib.compact
  rw [comp_mem]
  rw [← List.Perm.mem_iff (List.mergeSort_perm l fun x y => decide (x ≤ y))]
  generalize l.mergeSort (fun x y => decide (x ≤ y)) = d
  constructor
  · rintro ⟨j, hj, rfl⟩
    rw [getElem!_pos d.toArray j (by simpa using hj)]
    simp
  · intro hx
    obtain ⟨j, hj, rfl⟩ := List.mem_iff_getElem.1 hx
    exact ⟨j, hj, by simp [hj]⟩

theorem sortB_rise (l : List Bs) : (sortB l).Pairwise (· < ·) := by
  unfold sortB Lib.compact
  have hp := List.pairwise_mergeSort (le := fun x y : Bs => decide (x ≤ y)) (fun a b c h1 h2 => by simp only [decide_eq_true_eq] at *; exact List.le_trans h1 h2) (fun a b => by simp only [Bool.or_eq_true, decide_eq_true_eq]; exact List.le_total a b) l
  generalize l.mergeSort (fun x y => decide (x ≤ y)) = d at hp
  refine comp_rise d.toArray (fun i j hij hj => ?_) _ (by simp)
  have hj' : j < d.length := by simpa using hj
  have := (List.pairwise_iff_getElem.1 hp) i j (by omega) hj' hij
  simp only [decide_eq_true_eq] at this
  simpa [show i < d.length by omega, hj'] using this

/-- Rising tags. -/
def Rise (l : List ByteArray) : Prop := (bytesL l).Pairwise (· < ·)

theorem bytesL_mk (b : List Bs) : bytesL (b.map mkL) = b := by
  unfold bytesL
  rw [List.map_map]
  conv => rhs; rw [← List.map_id b]
  refine List.map_congr_left fun x _ => ?_
  simp [mkL, ByteArray.toList_eq]

theorem mk_bytesL (l : List ByteArray) : (bytesL l).map mkL = l := by
  unfold bytesL
  rw [List.map_map]
  conv => rhs; rw [← List.map_id l]
  exact List.map_congr_left fun x _ => mk_toList x

theorem mem_bytesL (l : List ByteArray) (t : ByteArray) : t.toList ∈ bytesL l ↔ t ∈ l := by
  unfold bytesL
  constructor
  · intro h
    obtain ⟨x, hx, e⟩ := List.mem_map.1 h
    exact strb_inj e ▸ hx
  · intro h
    exact List.mem_map.2 ⟨t, h, rfl⟩

theorem sortL_rise (l : List ByteArray) : Rise (sortL l) := by
  unfold Rise sortL
  rw [bytesL_mk]
  exact sortB_rise (bytesL l)

theorem sortL_mem (l : List ByteArray) (t : ByteArray) : t ∈ sortL l ↔ t ∈ l := by
  rw [← mem_bytesL (sortL l), ← mem_bytesL l]
  unfold sortL
  rw [bytesL_mk]
  exact sortB_mem (bytesL l) t.toList

/-- Rising lists of the same tags are one. -/
theorem rise_eq {a b : List ByteArray} (ha : Rise a) (hb : Rise b) (h : ∀ t, t ∈ a ↔ t ∈ b) : a = b := by
  have := rise_ext ha hb (fun x => by
    have hx : (mkL x).toList = x := by simp [mkL, ByteArray.toList_eq]
    rw [← hx, mem_bytesL, mem_bytesL]
    exact h (mkL x))
  rw [← mk_bytesL a, ← mk_bytesL b, this]

theorem sortL_eq {l : List ByteArray} {a : List ByteArray} (ha : Rise a) (h : ∀ t, t ∈ a ↔ t ∈ l) : sortL l = a :=
  rise_eq (sortL_rise l) ha fun t => (sortL_mem l t).trans (h t).symm

/-- In order what is in order stays. -/
theorem sortL_idem (l : List ByteArray) : sortL (sortL l) = sortL l := sortL_eq (sortL_rise l) fun _ => Iff.rfl
theorem sortL_congr {l l' : List ByteArray} (h : ∀ t, t ∈ l ↔ t ∈ l') : sortL l = sortL l' := sortL_eq (sortL_rise l') fun t => (sortL_mem l' t).trans (h t).symm

/-- Insertion ahead of the first that is greater. -/
def insL (t : ByteArray) : List ByteArray → List ByteArray
  | [] => [t]
  | x :: r => if Op.bytesLess t.toList x.toList = true then t :: x :: r else x :: insL t r
def stepL (out : List ByteArray) (t : ByteArray) : List ByteArray := if hasL out t = true then out else insL t out

theorem insL_mem (t x : ByteArray) : ∀ l : List ByteArray, x ∈ insL t l ↔ x = t ∨ x ∈ l
  | [] => by simp [insL]
  | y :: r => by
    unfold insL
    split
    · simp
    · rw [List.mem_cons, insL_mem t x r, List.mem_cons]
      constructor
      · rintro (h | h | h) <;> simp [h]
      · rintro (h | h | h) <;> simp [h]

theorem lessB_eq : ∀ (x y : Bs), Op.bytesLess x y = decide (x < y)
  | [], [] => by simp [Op.bytesLess]
  | _ :: _, [] => by simp [Op.bytesLess]
  | [], _ :: _ => by simp [Op.bytesLess]
  | a :: x, b :: y => by
    rw [Op.bytesLess, lessB_eq x y]
    simp only [List.cons_lt_cons_iff]
    by_cases h1 : a < b <;> by_cases h2 : a = b <;> by_cases h3 : x < y <;> simp [h1, h2, h3]

theorem less_iff (a b : ByteArray) : Op.bytesLess a.toList b.toList = true ↔ a.toList < b.toList := by
  rw [lessB_eq]
  simp

theorem insL_rise (t : ByteArray) : ∀ l : List ByteArray, Rise l → t ∉ l → Rise (insL t l)
  | [], _, _ => by simp [insL, Rise, bytesL]
  | y :: r, h, hn => by
    unfold Rise bytesL at h
    rw [List.map_cons, List.pairwise_cons] at h
    obtain ⟨h1, h2⟩ := h
    have hty : t.toList ≠ y.toList := fun e => hn (by rw [strb_inj e]; simp)
    unfold insL
    by_cases hl : Op.bytesLess t.toList y.toList = true
    · rw [if_pos hl]
      rw [less_iff] at hl
      unfold Rise bytesL
      rw [List.map_cons, List.map_cons, List.pairwise_cons, List.pairwise_cons]
      refine ⟨fun x hx => ?_, h1, h2⟩
      rcases List.mem_cons.1 hx with e | e
      · rw [e]; exact hl
      · exact List.lt_trans hl (h1 x e)
    · rw [if_neg hl]
      rw [less_iff] at hl
      have hr := insL_rise t r h2 (fun hm => hn (by simp [hm]))
      unfold Rise bytesL at hr ⊢
      rw [List.map_cons, List.pairwise_cons]
      refine ⟨fun x hx => ?_, hr⟩
      obtain ⟨z, hz, rfl⟩ := List.mem_map.1 hx
      rcases (insL_mem t z r).1 hz with e | e
      · rw [e]; exact bs_lt_of_le (List.not_lt.1 hl) (Ne.symm hty)
      · exact h1 _ (List.mem_map.2 ⟨z, e, rfl⟩)

theorem insL_length (t : ByteArray) : ∀ l : List ByteArray, (insL t l).length = l.length + 1
  | [] => rfl
  | y :: r => by
    unfold insL
    split
    · simp
    · simp [insL_length t r]

theorem stepL_mem (out : List ByteArray) (t x : ByteArray) : x ∈ stepL out t ↔ x = t ∨ x ∈ out := by
  unfold stepL
  split
  · rename_i h
    rw [hasL_iff] at h
    constructor
    · exact .inr
    · rintro (rfl | h1)
      · exact h
      · exact h1
  · exact insL_mem t x out

theorem stepL_rise {out : List ByteArray} (t : ByteArray) (h : Rise out) : Rise (stepL out t) := by
  unfold stepL
  split
  · exact h
  · rename_i hn
    exact insL_rise t out h (fun hm => hn (hasL_true hm))

theorem stepL_length (out : List ByteArray) (t : ByteArray) : out.length ≤ (stepL out t).length := by
  unfold stepL
  split
  · exact Nat.le_refl _
  · rw [insL_length]; omega

theorem fold_step : ∀ (l out : List ByteArray), Rise out → Rise (l.foldl stepL out) ∧ (∀ t, t ∈ l.foldl stepL out ↔ t ∈ out ∨ t ∈ l) ∧ out.length ≤ (l.foldl stepL out).length
  | [], out, h => ⟨h, by simp, Nat.le_refl _⟩
  | x :: l, out, h => by
    obtain ⟨h1, h2, h3⟩ := fold_step l (stepL out x) (stepL_rise x h)
    refine ⟨h1, fun t => ?_, Nat.le_trans (stepL_length out x) h3⟩
    rw [List.foldl_cons, h2, stepL_mem, List.mem_cons]
    constructor
    · rintro ((h | h) | h) <;> simp [h]
    · rintro (h | h | h) <;> simp [h]

theorem fold_sort (l : List ByteArray) : l.foldl stepL [] = sortL l := by
  obtain ⟨h1, h2, _⟩ := fold_step l [] (by simp [Rise, bytesL])
  exact (sortL_eq h1 (fun t => by rw [h2]; simp)).symm
end Go.Proofs.Ytcamhpjgpjihhaa

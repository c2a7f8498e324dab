/- Tags: slices.ContainsFunc with a closure; the program's Match. (Written by gen_tags2.py, a program of this session's own.) -/
import Derived.Test.YtahopbjoaoiknaaTags1
import Derived.Laws.EntriesVeiled
namespace Go.Proofs.Ytahopbjoaoiknaa
set_option linter.unusedVariables false
set_option linter.unusedSimpArgs false
open Go.RowKit

/-- Where slices.IndexFunc comes out: at an element that is so, or below 0. -/
def IdxPost (l : List ByteArray) (p : ByteArray → Bool) (w : World) (e : Ending) (w' : World) : Prop := ∃ i : Int, e = .returned (.int .i64 i) ∧ (l.any p = true → 0 ≤ i) ∧ (l.any p = false → i < 0) ∧ w = w'
def IdxRel (w : World) (l : List ByteArray) (p : ByteArray → Bool) (i : Value) (wr : World) : Prop := ∃ k : Nat, k ≤ l.length ∧ i = .int .i64 k ∧ (∀ j (h : j < l.length), j < k → p l[j] = false) ∧ w = wr

theorem idx_func_has (cap0 : Value) (p : ByteArray → Bool) (v : Value) (l : List ByteArray) (w : World) (h : Strs w v l)
    (hf : ∀ s, s ∈ l → Calls Try.prog 29 #[.string s, cap0] w fun e w' => e = .returned (.bool (p s)) ∧ w = w') :
    Calls Try.prog 61 #[v, .func (Fn.func 29) #[] #[cap0]] w (IdxPost l p w) := by
  obtain ⟨A, cap, rfl, hlc, hcm, hrow⟩ := h.one
  have hlm : l.length ≤ 9223372036854775807 := by simp only [maxLen] at hcm; omega
  clear hlc hcm h
  have hf := Lib.hid hf
  go_enter Try.func61, Try.ntmps61
  go_wp2_with fail
  go_loopw [8] (fun i wr => IdxRel w l p i wr) (fun i _ => l.length - (intOf i).toNat)
  case atStart => exact ⟨0, by omega, rfl, fun j _ h => absurd h (by omega), rfl⟩
  case round =>
    obtain ⟨k, hk, rfl, hall, rfl⟩ := hrel
    have hall := Lib.hid hall
    by_cases hlt : k < l.length
    · obtain ⟨b, off, rfl, hc⟩ := hrow k hlt
      clear hrow
      have hmem := List.getElem_mem hlt
      generalize hx : l[k] = x at *
      have hx := Lib.hid hx
      go_wp2_with fail
      refine (hf.out x hmem).mono ?_
      rintro e w1 ⟨rfl, rfl⟩
      obtain ⟨q, hq⟩ : ∃ q, p x = q := ⟨_, rfl⟩
      rw [hq]
      have hq := Lib.hid hq
      cases q
      · clear hmem
        go_wp2_with fail
        refine ⟨⟨k + 1, by omega, by go_num, fun j hj hjk => ?_, rfl⟩, by simp [intOf]; omega⟩
        by_cases hjj : j = k
        · subst hjj; rw [hx.out]; exact hq.out
        · exact hall.out j hj (by omega)
      · have ha : l.any p = true := List.any_eq_true.2 ⟨x, hmem, hq.out⟩
        have ha := Lib.hid ha
        clear hmem
        go_wp2_with fail
        go_ret
        exact ⟨_, rfl, fun _ => by omega, fun h => (by rw [ha.out] at h; cases h), rfl⟩
    · have ha : l.any p = false := by
        rw [List.any_eq_false]
        intro t ht
        obtain ⟨j, hj, rfl⟩ := List.mem_iff_getElem.1 ht
        simp [hall.out j hj (by omega)]
      have ha := Lib.hid ha
      clear hrow
      go_wp2_with fail
      go_ret
      exact ⟨_, rfl, fun h => (by rw [ha.out] at h; cases h), fun _ => by omega, rfl⟩

theorem cont_func_has (cap0 : Value) (p : ByteArray → Bool) (v : Value) (l : List ByteArray) (w : World) (h : Strs w v l)
    (hf : ∀ s, s ∈ l → Calls Try.prog 29 #[.string s, cap0] w fun e w' => e = .returned (.bool (p s)) ∧ w = w') :
    Calls Try.prog 32 #[v, .func (Fn.func 29) #[] #[cap0]] w fun e w' => e = .returned (.bool (l.any p)) ∧ w = w' := by
  have hi := Lib.hid (idx_func_has cap0 p v l w h hf)
  clear hf
  obtain ⟨A, cap, rfl, _⟩ := h.one
  clear h
  obtain ⟨q, hq⟩ : ∃ q, Hid (l.any p = q) := ⟨_, rfl⟩
  rw [hq.out]
  go_enter Try.func32, Try.ntmps32
  go_wp2_with fail
  refine hi.out.mono ?_
  rintro e w1 ⟨i, rfl, h1, h2, rfl⟩
  cases q
  · have h2 := h2 hq.out
    have hd : decide (0 ≤ i) = false := decide_eq_false (by omega)
    clear h1
    go_wp2_with fail
    go_ret
    exact ⟨rfl, rfl⟩
  · have h1 := h1 hq.out
    clear h2
    go_wp2_with fail
    go_ret
    exact ⟨rfl, rfl⟩

theorem idx_func_lacks (cap0 : Value) (p : ByteArray → Bool) (v : Value) (l : List ByteArray) (w : World) (h : Strs w v l)
    (hf : ∀ s, s ∈ l → Calls Try.prog 31 #[.string s, cap0] w fun e w' => e = .returned (.bool (p s)) ∧ w = w') :
    Calls Try.prog 61 #[v, .func (Fn.func 31) #[] #[cap0]] w (IdxPost l p w) := by
  obtain ⟨A, cap, rfl, hlc, hcm, hrow⟩ := h.one
  have hlm : l.length ≤ 9223372036854775807 := by simp only [maxLen] at hcm; omega
  clear hlc hcm h
  have hf := Lib.hid hf
  go_enter Try.func61, Try.ntmps61
  go_wp2_with fail
  go_loopw [8] (fun i wr => IdxRel w l p i wr) (fun i _ => l.length - (intOf i).toNat)
  case atStart => exact ⟨0, by omega, rfl, fun j _ h => absurd h (by omega), rfl⟩
  case round =>
    obtain ⟨k, hk, rfl, hall, rfl⟩ := hrel
    have hall := Lib.hid hall
    by_cases hlt : k < l.length
    · obtain ⟨b, off, rfl, hc⟩ := hrow k hlt
      clear hrow
      have hmem := List.getElem_mem hlt
      generalize hx : l[k] = x at *
      have hx := Lib.hid hx
      go_wp2_with fail
      refine (hf.out x hmem).mono ?_
      rintro e w1 ⟨rfl, rfl⟩
      obtain ⟨q, hq⟩ : ∃ q, p x = q := ⟨_, rfl⟩
      rw [hq]
      have hq := Lib.hid hq
      cases q
      · clear hmem
        go_wp2_with fail
        refine ⟨⟨k + 1, by omega, by go_num, fun j hj hjk => ?_, rfl⟩, by simp [intOf]; omega⟩
        by_cases hjj : j = k
        · subst hjj; rw [hx.out]; exact hq.out
        · exact hall.out j hj (by omega)
      · have ha : l.any p = true := List.any_eq_true.2 ⟨x, hmem, hq.out⟩
        have ha := Lib.hid ha
        clear hmem
        go_wp2_with fail
        go_ret
        exact ⟨_, rfl, fun _ => by omega, fun h => (by rw [ha.out] at h; cases h), rfl⟩
    · have ha : l.any p = false := by
        rw [List.any_eq_false]
        intro t ht
        obtain ⟨j, hj, rfl⟩ := List.mem_iff_getElem.1 ht
        simp [hall.out j hj (by omega)]
      have ha := Lib.hid ha
      clear hrow
      go_wp2_with fail
      go_ret
      exact ⟨_, rfl, fun h => (by rw [ha.out] at h; cases h), fun _ => by omega, rfl⟩

theorem cont_func_lacks (cap0 : Value) (p : ByteArray → Bool) (v : Value) (l : List ByteArray) (w : World) (h : Strs w v l)
    (hf : ∀ s, s ∈ l → Calls Try.prog 31 #[.string s, cap0] w fun e w' => e = .returned (.bool (p s)) ∧ w = w') :
    Calls Try.prog 32 #[v, .func (Fn.func 31) #[] #[cap0]] w fun e w' => e = .returned (.bool (l.any p)) ∧ w = w' := by
  have hi := Lib.hid (idx_func_lacks cap0 p v l w h hf)
  clear hf
  obtain ⟨A, cap, rfl, _⟩ := h.one
  clear h
  obtain ⟨q, hq⟩ : ∃ q, Hid (l.any p = q) := ⟨_, rfl⟩
  rw [hq.out]
  go_enter Try.func32, Try.ntmps32
  go_wp2_with fail
  refine hi.out.mono ?_
  rintro e w1 ⟨i, rfl, h1, h2, rfl⟩
  cases q
  · have h2 := h2 hq.out
    have hd : decide (0 ≤ i) = false := decide_eq_false (by omega)
    clear h1
    go_wp2_with fail
    go_ret
    exact ⟨rfl, rfl⟩
  · have h1 := h1 hq.out
    clear h2
    go_wp2_with fail
    go_ret
    exact ⟨rfl, rfl⟩

theorem containsS_has (l : List ByteArray) (s : ByteArray) : Lib.containsS l s = hasL l s := by
  rw [Bool.eq_iff_iff, Lib.containsS_iff, hasL_iff]

theorem prog_contains (v : Value) (l : List ByteArray) (s : ByteArray) (w : World) (h : Strs w v l) :
    Calls Try.prog 30 #[v, .string s] w fun e w' => e = .returned (.bool (hasL l s)) ∧ w = w' := by
  obtain ⟨A, cap, rfl, hlc, hcm, hrow⟩ := h.one
  have hlm : l.length ≤ 9223372036854775807 := by simp only [maxLen] at hcm; omega
  by_cases hz : l.length = 0
  · obtain rfl : l = [] := List.eq_nil_of_length_eq_zero hz
    exact (Try.slices_Contains_string_empty A cap s w).mono fun e w' ⟨h1, h2⟩ => ⟨h1, h2.symm⟩
  · obtain ⟨b, off, rfl, _⟩ := hrow 0 (by omega)
    refine (Try.slices_Contains_string b off l.length cap l s w (Nat.le_refl _) hlm fun j hj => ?_).mono fun e w' ⟨h1, h2⟩ => ⟨?_, h2.symm⟩
    · obtain ⟨b', off', e, hc⟩ := hrow j hj
      simp only [Option.some.injEq, Addr.mk.injEq, and_true] at e
      obtain ⟨rfl, rfl⟩ := e
      rw [hc]
      simp [List.getD, List.getElem?_eq_getElem hj]
    · rw [h1, List.take_length, containsS_has]

theorem clos_has (s : ByteArray) (g : Nat) (v : Value) (l : List ByteArray) (w : World) (hv : Strs w v l) (hc : w.cell? ⟨g, 0, none⟩ = some v) :
    Calls Try.prog 29 #[.string s, .pointer (some ⟨g, 0, none⟩)] w fun e w' => e = .returned (.bool (hasL l s)) ∧ w = w' := by
  obtain ⟨A, cap, e, _⟩ := hv.one
  subst e
  have hp := Lib.hid (prog_contains _ l s w hv)
  clear hv
  go_enter Try.func29, Try.ntmps29
  go_wp2_with fail
  refine hp.out.mono ?_
  rintro e w1 ⟨rfl, rfl⟩
  go_wp2_with fail
  go_ret
  exact ⟨rfl, rfl⟩

theorem clos_lacks (s : ByteArray) (g f : Nat) (v : Value) (l : List ByteArray) (w : World) (hv : Strs w v l) (hc : w.cell? ⟨g, 0, none⟩ = some v) (hf : w.cell? ⟨f, 0, none⟩ = some (.func (Fn.func 29) #[] #[.pointer (some ⟨g, 0, none⟩)])) :
    Calls Try.prog 31 #[.string s, .pointer (some ⟨f, 0, none⟩)] w fun e w' => e = .returned (.bool (!hasL l s)) ∧ w = w' := by
  have hp := Lib.hid (clos_has s g v l w hv hc)
  clear hv hc
  go_enter Try.func31, Try.ntmps31
  go_wp2_with fail
  refine hp.out.mono ?_
  rintro e w1 ⟨rfl, rfl⟩
  go_wp2_with fail
  go_ret
  exact ⟨rfl, rfl⟩
end Go.Proofs.Ytahopbjoaoiknaa


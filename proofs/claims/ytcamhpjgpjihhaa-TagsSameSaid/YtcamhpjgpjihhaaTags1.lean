/- Tags: the reference's Has, Match, Fine; the program's Check. -/
import Derived.Test.YtcamhpjgpjihhaaStrs
import Derived.Test.YtcamhpjgpjihhaaShelf
namespace Go.Proofs.Ytcamhpjgpjihhaa
open Go.RowKit

def hasL (l : List ByteArray) (t : ByteArray) : Bool := l.any fun s => decide (s = t)
theorem hasL_true {l : List ByteArray} {t : ByteArray} (h : t ∈ l) : hasL l t = true := by
  unfold hasL
  rw [List.any_eq_true]
  exact ⟨t, h, by simp⟩
theorem hasL_false {l : List ByteArray} {t : ByteArray} (h : t ∉ l) : hasL l t = false := by
  unfold hasL
  rw [List.any_eq_false]
  intro x hx
  simp
  intro e
  exact h (e ▸ hx)
theorem hasL_iff {l : List ByteArray} {t : ByteArray} : hasL l t = true ↔ t ∈ l := by
  constructor
  · intro h
    by_cases hm : t ∈ l
    · exact hm
    · rw [hasL_false hm] at h; cases h
  · exact hasL_true

theorem strb_inj {x t : ByteArray} (e : x.toList = t.toList) : x = t := by
  rw [ByteArray.toList_eq, ByteArray.toList_eq] at e
  cases x
  cases t
  simpa using e
theorem strb_ne {x t : ByteArray} (h : x ≠ t) : (x.toList == t.toList) = false := by
  rw [beq_eq_false_iff_ne]
  exact fun e => h (strb_inj e)

def HasRel (w : World) (l : List ByteArray) (t : ByteArray) (i : Value) (wr : World) : Prop := ∃ k : Nat, k ≤ l.length ∧ i = .int .i64 k ∧ (∀ j (h : j < l.length), j < k → l[j] ≠ t) ∧ w = wr

theorem ref_has (v : Value) (l : List ByteArray) (t : ByteArray) (w : World) (h : Strs w v l) :
    Calls Try.prog 48 #[v, .string t] w fun e w' => e = .returned (.bool (hasL l t)) ∧ w = w' := by
  obtain ⟨A, cap, rfl, hlc, hcm, hrow⟩ := h.one
  have hlm : l.length ≤ 9223372036854775807 := by simp only [maxLen] at hcm; omega
  clear hlc hcm h
  obtain ⟨b0, hb0⟩ : ∃ b0, Hid (hasL l t = b0) := ⟨_, rfl⟩
  rw [hb0.out]
  go_enter Try.func48, Try.ntmps48
  go_wp2_with fail
  go_loopw [5] (fun i wr => HasRel w l t i wr) (fun i _ => l.length - (intOf i).toNat)
  case atStart => exact ⟨0, by omega, rfl, fun j _ h => absurd h (by omega), rfl⟩
  case round =>
    obtain ⟨k, hk, rfl, hall, rfl⟩ := hrel
    by_cases hlt : k < l.length
    · obtain ⟨b, off, rfl, hc⟩ := hrow k hlt
      clear hrow
      have hmem := List.getElem_mem hlt
      generalize hx : l[k] = x at *
      have hx := Lib.hid hx
      by_cases he : x = t
      · have e1 : (x.toList == t.toList) = true := by simp [he]
        have hb1 : b0 = true := by rw [← hb0.out]; exact hasL_true (he ▸ hmem)
        subst hb1
        clear hall
        go_wp2_with fail
        go_ret
        exact ⟨rfl, rfl⟩
      · have e1 : (x.toList == t.toList) = false := strb_ne he
        have hall := Lib.hid hall
        clear hmem
        go_wp2_with fail
        refine ⟨⟨k + 1, by omega, by go_num, fun j hj hjk => ?_, rfl⟩, by simp [intOf]; omega⟩
        by_cases hjj : j = k
        · subst hjj; rw [hx.out]; exact he
        · exact hall.out j hj (by omega)
    · have hb1 : b0 = false := by
        rw [← hb0.out]
        refine hasL_false fun hm => ?_
        obtain ⟨j, hj, he⟩ := List.mem_iff_getElem.1 hm
        exact hall j hj (by omega) he
      subst hb1
      clear hall hrow
      go_wp2_with fail
      go_ret
      exact ⟨rfl, rfl⟩

/-- A filter's three lists, told. -/
def FilR (w : World) (cs : List Value) (al an no : List ByteArray) : Prop := ∃ a y n, cs = [a, y, n] ∧ Strs w a al ∧ Strs w y an ∧ Strs w n no
theorem FilR.keeps {w w' : World} {cs : List Value} {al an no : List ByteArray} (h : FilR w cs al an no) (k : Keeps w w') : FilR w' cs al an no := by
  obtain ⟨a, y, n, e, h1, h2, h3⟩ := h
  exact ⟨a, y, n, e, h1.keeps k, h2.keeps k, h3.keeps k⟩

def matchL (al an no l : List ByteArray) : Bool := (al.all fun t => hasL l t) && !(no.any fun t => hasL l t) && (an.isEmpty || an.any fun t => hasL l t)

def AllRel (w : World) (al l : List ByteArray) (i : Value) (wr : World) : Prop := ∃ k : Nat, k ≤ al.length ∧ i = .int .i64 k ∧ (∀ j (h : j < al.length), j < k → hasL l al[j] = true) ∧ w = wr
def NoRel (w : World) (no l : List ByteArray) (i : Value) (wr : World) : Prop := ∃ k : Nat, k ≤ no.length ∧ i = .int .i64 k ∧ (∀ j (h : j < no.length), j < k → hasL l no[j] = false) ∧ w = wr

theorem all_of {al l : List ByteArray} (h : ∀ j (h : j < al.length), hasL l al[j] = true) : (al.all fun t => hasL l t) = true := by
  rw [List.all_eq_true]
  intro t ht
  obtain ⟨j, hj, rfl⟩ := List.mem_iff_getElem.1 ht
  exact h j hj
theorem any_none {al l : List ByteArray} (h : ∀ j (h : j < al.length), hasL l al[j] = false) : (al.any fun t => hasL l t) = false := by
  rw [List.any_eq_false]
  intro t ht
  obtain ⟨j, hj, rfl⟩ := List.mem_iff_getElem.1 ht
  simp [h j hj]

set_option maxHeartbeats 1000000 in
theorem ref_match (cs : List Value) (al an no : List ByteArray) (v : Value) (l : List ByteArray) (w : World) (h : FilR w cs al an no) (hv : Strs w v l) :
    Calls Try.prog 18 #[.agg cs.toArray, v] w fun e w' => e = .returned (.bool (matchL al an no l)) ∧ Kp (fun _ => False) w w' := by
  obtain ⟨a, y, n, rfl, ha, hy, hn⟩ := h
  have kk := (Kp.refl (fun _ => False) w).alloc (.cells #[a, y, n] 24)
  have K := Keeps.kp kk
  replace ha := ha.keeps K
  replace hy := hy.keeps K
  replace hn := hn.keeps K
  replace hv := hv.keeps K
  have hbox := Blk.new w #[a, y, n] 24
  obtain ⟨aA, ac, rfl, a1, a2, hra⟩ := ha.one
  obtain ⟨yA, yc, rfl, y1, y2, hry⟩ := hy.one
  obtain ⟨nA, nc, rfl, n1, n2, hrn⟩ := hn.one
  have hlm : al.length ≤ 9223372036854775807 := by simp only [maxLen] at a2; omega
  have hlm2 : an.length ≤ 9223372036854775807 := by simp only [maxLen] at y2; omega
  have hlm3 : no.length ≤ 9223372036854775807 := by simp only [maxLen] at n2; omega
  clear a1 a2 y1 y2 n1 n2 K ha hy hn
  obtain ⟨b0, hb0⟩ : ∃ b0, Hid (matchL al an no l = b0) := ⟨_, rfl⟩
  rw [hb0.out]
  go_enter Try.func18, Try.ntmps18
  go_wp2_with fail
  have c0 := (hbox.cell 0).trans rfl
  have c1 := (hbox.cell 1).trans rfl
  have c2 := (hbox.cell 2).trans rfl
  generalize w.alloc (.cells #[.slice aA al.length ac, .slice yA an.length yc, .slice nA no.length nc] 24) = W at *
  generalize w.heap.size = g at *
  go_loopw [5] (fun i wr => AllRel W al l i wr) (fun i _ => al.length - (intOf i).toNat)
  case atStart => exact ⟨0, by omega, rfl, fun j _ h => absurd h (by omega), rfl⟩
  case round =>
    obtain ⟨k, hk, rfl, hall, rfl⟩ := hrel
    by_cases hlt : k < al.length
    · obtain ⟨b, off, rfl, hc⟩ := hra k hlt
      clear hra hry hrn
      have hmem := List.getElem_mem hlt
      generalize hx : al[k] = x at *
      have hx := Lib.hid hx
      go_wp2_with fail
      refine (ref_has _ _ _ _ hv).mono ?_
      rintro e w1 ⟨rfl, rfl⟩
      obtain ⟨q, hq⟩ : ∃ q, hasL l x = q := ⟨_, rfl⟩
      rw [hq]
      have hq := Lib.hid hq
      have hall := Lib.hid hall
      cases q
      · have hb1 : b0 = false := by
          rw [← hb0.out]
          unfold matchL
          have : (al.all fun t => hasL l t) = false := by
            rw [List.all_eq_false]
            exact ⟨x, hmem, by simp [hq.out]⟩
          simp [this]
        subst hb1
        clear hmem
        go_wp2_with fail
        go_ret
        exact ⟨rfl, kk⟩
      · clear hmem
        go_wp2_with fail
        refine ⟨⟨k + 1, by omega, by go_num, fun j hj hjk => ?_, rfl⟩, by simp [intOf]; omega⟩
        by_cases hjj : j = k
        · subst hjj; rw [hx.out]; exact hq.out
        · exact hall.out j hj (by omega)
    · have hA : Hid ((al.all fun t => hasL l t) = true) := all_of fun j hj => hall j hj (by omega)
      obtain rfl : k = al.length := by omega
      clear hall hra hlt hk
      go_wp2_with fail
      go_loopw [6] (fun i wr => NoRel W no l i wr) (fun i _ => no.length - (intOf i).toNat)
      case atStart => exact ⟨0, by omega, rfl, fun j _ h => absurd h (by omega), rfl⟩
      case round =>
        obtain ⟨k, hk, rfl, hall, rfl⟩ := hrel
        by_cases hlt : k < no.length
        · obtain ⟨b, off, rfl, hc⟩ := hrn k hlt
          clear hry hrn
          have hmem := List.getElem_mem hlt
          generalize hx : no[k] = x at *
          have hx := Lib.hid hx
          go_wp2_with fail
          refine (ref_has _ _ _ _ hv).mono ?_
          rintro e w1 ⟨rfl, rfl⟩
          obtain ⟨q, hq⟩ : ∃ q, hasL l x = q := ⟨_, rfl⟩
          rw [hq]
          have hq := Lib.hid hq
          have hall := Lib.hid hall
          cases q
          · clear hmem
            go_wp2_with fail
            refine ⟨⟨k + 1, by omega, by go_num, fun j hj hjk => ?_, rfl⟩, by simp [intOf]; omega⟩
            by_cases hjj : j = k
            · subst hjj; rw [hx.out]; exact hq.out
            · exact hall.out j hj (by omega)
          · have hb1 : b0 = false := by
              rw [← hb0.out]
              unfold matchL
              have : (no.any fun t => hasL l t) = true := by
                rw [List.any_eq_true]
                exact ⟨x, hmem, hq.out⟩
              simp [this]
            subst hb1
            clear hmem
            go_wp2_with fail
            go_ret
            exact ⟨rfl, kk⟩
        · have hN : Hid ((no.any fun t => hasL l t) = false) := any_none fun j hj => hall j hj (by omega)
          obtain rfl : k = no.length := by omega
          clear hall hrn hlt hk
          go_wp2_with fail
          go_loopw [7] (fun i wr => NoRel W an l i wr) (fun i _ => an.length - (intOf i).toNat)
          case atStart => exact ⟨0, by omega, rfl, fun j _ h => absurd h (by omega), rfl⟩
          case round =>
            obtain ⟨k, hk, rfl, hall, rfl⟩ := hrel
            by_cases hlt : k < an.length
            · obtain ⟨b, off, rfl, hc⟩ := hry k hlt
              clear hry
              have hmem := List.getElem_mem hlt
              generalize hx : an[k] = x at *
              have hx := Lib.hid hx
              go_wp2_with fail
              refine (ref_has _ _ _ _ hv).mono ?_
              rintro e w1 ⟨rfl, rfl⟩
              obtain ⟨q, hq⟩ : ∃ q, hasL l x = q := ⟨_, rfl⟩
              rw [hq]
              have hq := Lib.hid hq
              have hall := Lib.hid hall
              cases q
              · clear hmem
                go_wp2_with fail
                refine ⟨⟨k + 1, by omega, by go_num, fun j hj hjk => ?_, rfl⟩, by simp [intOf]; omega⟩
                by_cases hjj : j = k
                · subst hjj; rw [hx.out]; exact hq.out
                · exact hall.out j hj (by omega)
              · have hb1 : b0 = true := by
                  rw [← hb0.out]
                  unfold matchL
                  have : (an.any fun t => hasL l t) = true := by
                    rw [List.any_eq_true]
                    exact ⟨x, hmem, hq.out⟩
                  simp [this, hA.out, hN.out]
                subst hb1
                clear hmem
                go_wp2_with fail
                go_ret
                exact ⟨rfl, kk⟩
            · have hY : (an.any fun t => hasL l t) = false := any_none fun j hj => hall j hj (by omega)
              have hb1 : b0 = an.isEmpty := by
                rw [← hb0.out]
                unfold matchL
                simp [hY, hA.out, hN.out]
              obtain rfl : k = an.length := by omega
              clear hall hry hlt hk hY
              have hfin : Hid (an.isEmpty = decide ((an.length : Int) = 0)) := by
                unfold Hid
                cases an <;> simp
                omega
              by_cases hz : an.length = 0
              · have e1 : ((an.length : Int) == 0) = true := by simp [hz]
                have hb2 : b0 = true := by rw [hb1, hfin.out]; simp [hz]
                subst hb2
                clear hb1 hz
                go_wp2_with fail
                go_ret
                exact ⟨rfl, kk⟩
              · have e1 : ((an.length : Int) == 0) = false := beq_eq_false_iff_ne.2 (by omega)
                have hb2 : b0 = false := by rw [hb1, hfin.out]; exact decide_eq_false (by omega)
                subst hb2
                clear hb1
                go_wp2_with fail
                go_ret
                exact ⟨rfl, kk⟩
end Go.Proofs.Ytcamhpjgpjihhaa

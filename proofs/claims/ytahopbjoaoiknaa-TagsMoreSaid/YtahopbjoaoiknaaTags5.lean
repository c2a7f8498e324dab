/- Tags: the reference's Fine. -/
import Derived.Test.YtahopbjoaoiknaaTags4
namespace Go.Proofs.Ytahopbjoaoiknaa
set_option linter.unusedVariables false
set_option linter.unusedSimpArgs false
open Go.RowKit

theorem leB_emp (x : ByteArray) : leB x emp = (x.toList == []) := by
  unfold leB emp
  rw [show (ByteArray.mk #[]).toList = [] by rw [ByteArray.toList_eq]]
  cases h : x.toList <;> rfl

theorem leB_min {x y : ByteArray} (h : x = emp) : leB x y = true := by
  subst h
  unfold leB emp
  rw [show (ByteArray.mk #[]).toList = [] by rw [ByteArray.toList_eq]]
  cases h : y.toList <;> rfl

def prevL (l : List ByteArray) (k : Nat) : ByteArray := if k = 0 then emp else l.getD (k - 1) emp
def FineRel (w : World) (l : List ByteArray) (i : Value) (wr : World) : Prop := ∃ k : Nat, k ≤ l.length ∧ k ≤ 10 ∧ i = .int .i64 k ∧ risL emp l = risL (prevL l k) (l.drop k) ∧ Kp (fun _ => False) w wr

theorem ref_fine (v : Value) (l : List ByteArray) (w : World) (h : Strs w v l) :
    Calls Try.prog 98 #[v] w fun e w' => e = .returned (.bool (okL l)) ∧ Kp (fun _ => False) w w' := by
  obtain ⟨A, cap, rfl, hlc, hcm, hrow⟩ := h.one
  clear hlc hcm h
  obtain ⟨q, hq⟩ : ∃ q, Hid (okL l = q) := ⟨_, rfl⟩
  rw [hq.out]
  have kk := Kp.refl (fun _ => False) w
  go_enter Try.func98, Try.ntmps98
  go_wp2_with fail
  go_loopw [3] (fun i wr => FineRel w l i wr) (fun i _ => l.length - (intOf i).toNat)
  case atStart => exact ⟨0, by omega, by omega, rfl, by simp [prevL], kk⟩
  case round =>
    clear kk
    obtain ⟨k, hk, hk10, rfl, hris, kk⟩ := hrel
    have hris := Lib.hid hris
    by_cases hlt : k < l.length ∧ k < 10
    · obtain ⟨hlt, hl10⟩ := hlt
      have hd10 : decide ((k : Int) < 10) = true := by simp; omega
      obtain ⟨b, off, hA, hc⟩ := hrow k hlt
      have hdrop : Hid (l.drop k = l[k] :: l.drop (k + 1)) := by
        unfold Hid
        exact List.drop_eq_getElem_cons hlt
      have hprev : Hid (prevL l (k + 1) = l[k]) := by
        unfold Hid prevL
        rw [if_neg (by omega)]
        simp [List.getD, List.getElem?_eq_getElem hlt]
      have hpc : 0 < k → wr.cell? ⟨b, off + (k - 1), none⟩ = some (.string (prevL l k)) := by
        intro h0
        obtain ⟨b', off', hA', hc'⟩ := hrow (k - 1) (by omega)
        rw [hA] at hA'
        simp only [Option.some.injEq, Addr.mk.injEq, and_true] at hA'
        obtain ⟨rfl, rfl⟩ := hA'
        rw [kk.cell0 hc']
        unfold prevL
        rw [if_neg (by omega)]
        simp [List.getD, List.getElem?_eq_getElem (show k - 1 < l.length by omega)]
      subst hA
      replace hc := kk.cell0 hc
      clear hrow
      generalize hx : l[k] = x at *
      have hx := Lib.hid hx
      by_cases h0 : k = 0
      · have hk0 : decide (0 < k) = false := decide_eq_false (by omega)
        have hle0 : x = emp → leB x (prevL l k) = true := fun e => leB_min e
        have h0' := Lib.hid h0
        clear h0
        clear hpc
        by_cases z1 : x.toList = []
        · have z2 : x.toList.isEmpty = true := by rw [z1]; rfl
          have z3 : (x.toList == []) = true := by rw [z1]; rfl
          have hq2 : q = false := by
            rw [← hq.out]
            unfold okL
            rw [hris.out, hdrop.out]
            have hx0 : x = emp := strb_inj (by rw [z1]; unfold emp; rw [ByteArray.toList_eq])
            simp [risL, hle0 hx0]
          subst hq2
          go_wp2_with fail
          go_quiet (fail)
          have kk := kk.drewN nq
          go_wp2_with fail
          go_ret
          exact ⟨rfl, kk⟩
        by_cases hsz : 16 < x.size
        · have hd16 : decide ((16 : Int) < (x.size : Int)) = true := by simp; omega
          have z2 : x.toList.isEmpty = false := by simpa using z1
          have z3 : (x.toList == []) = false := by simpa using z1
          have z4 : ¬ x.toList = [] := z1
          have hq2 : q = false := by
            rw [← hq.out]
            unfold okL
            rw [hris.out, hdrop.out]
            simp [risL]
            intros
            omega
          subst hq2
          go_wp2_with fail
          go_quiet (fail)
          have kk := kk.drewN nq
          go_wp2_with fail
          go_ret
          exact ⟨rfl, kk⟩
        have hd16 : decide ((16 : Int) < (x.size : Int)) = false := by simp; omega
        have hle : Hid (leB x (prevL l k) = false) := by
          unfold Hid prevL
          rw [if_pos h0'.out, leB_emp]
          simpa using z1
        · have z2 : x.toList.isEmpty = false := by simpa using z1
          have z3 : (x.toList == []) = false := by simpa using z1
          clear hle0
          go_wp2_with fail
          go_quiet (fail)
          have kk := kk.drewN nq
          clear hc
          go_wp2_with fail
          go_roundw
          case rel =>
            refine ⟨k + 1, by omega, by omega, by go_num, ?_, kk⟩
            rw [hris.out, hdrop.out, hprev.out]
            simp [risL, hle.out]
            omega
          case measure => simp [intOf]; omega
      · have hpc := hpc (by omega)
        generalize hy : prevL l k = y at *
        have hle0 : x = emp → leB x y = true := fun e => leB_min e
        have hk0 : decide (0 < k) = true := decide_eq_true (by omega)
        have wk : IntKind.i64.wrap ((k : Int) - 1) = ((k - 1 : Nat) : Int) := by rw [IntWalk.i64_in _ ⟨by omega, by omega⟩]; omega
        by_cases z1 : x.toList = []
        · have z2 : x.toList.isEmpty = true := by rw [z1]; rfl
          have z3 : (x.toList == []) = true := by rw [z1]; rfl
          have hq2 : q = false := by
            rw [← hq.out]
            unfold okL
            rw [hris.out, hdrop.out]
            have hx0 : x = emp := strb_inj (by rw [z1]; unfold emp; rw [ByteArray.toList_eq])
            simp [risL, hle0 hx0]
          subst hq2
          go_wp2_with fail
          go_quiet (fail)
          have kk := kk.drewN nq
          go_wp2_with fail
          go_ret
          exact ⟨rfl, kk⟩
        by_cases hsz : 16 < x.size
        · have hd16 : decide ((16 : Int) < (x.size : Int)) = true := by simp; omega
          have z2 : x.toList.isEmpty = false := by simpa using z1
          have z3 : (x.toList == []) = false := by simpa using z1
          have z4 : ¬ x.toList = [] := z1
          have hq2 : q = false := by
            rw [← hq.out]
            unfold okL
            rw [hris.out, hdrop.out]
            simp [risL]
            intros
            omega
          subst hq2
          go_wp2_with fail
          go_quiet (fail)
          have kk := kk.drewN nq
          go_wp2_with fail
          go_ret
          exact ⟨rfl, kk⟩
        have hd16 : decide ((16 : Int) < (x.size : Int)) = false := by simp; omega
        obtain ⟨z, hz⟩ : ∃ z, (Op.bytesLess x.toList y.toList || x.toList == y.toList) = z := ⟨_, rfl⟩
        have hle : Hid (leB x y = z) := hz
        have z2 : x.toList.isEmpty = false := by simpa using z1
        have z3 : (x.toList == []) = false := by simpa using z1
        clear hle0
        cases z
        · go_wp2_with fail
          go_quiet (fail)
          have kk := kk.drewN nq
          clear hc hpc wk
          go_wp2_with fail
          go_roundw
          case rel =>
            refine ⟨k + 1, by omega, by omega, by go_num, ?_, kk⟩
            rw [hris.out, hdrop.out, hprev.out]
            simp [risL, hle.out]
            omega
          case measure => simp [intOf]; omega
        · have hq2 : q = false := by
            rw [← hq.out]
            unfold okL
            rw [hris.out, hdrop.out]
            simp [risL, hle.out]
          subst hq2
          go_wp2_with fail
          go_quiet (fail)
          have kk := kk.drewN nq
          go_wp2_with fail
          go_ret
          exact ⟨rfl, kk⟩
    · have hq2 : q = decide ((l.length : Int) ≤ 8) := by
        rw [← hq.out]
        unfold okL
        by_cases h8 : l.length ≤ 8
        · rw [hris.out, List.drop_of_length_le (by omega)]
          have h8' : (l.length : Int) ≤ 8 := by omega
          simp [risL, h8, h8']
        · have h8' : ¬ (l.length : Int) ≤ 8 := by omega
          simp [h8, h8']
      have hq2 := Lib.hid hq2
      have hcase : (decide (k < l.length) = false) ∨ ((decide (k < l.length) = true) ∧ decide ((k : Int) < 10) = false) := by
        by_cases h : k < l.length
        · exact .inr ⟨by simpa using h, by simp; omega⟩
        · exact .inl (by simpa using h)
      clear hlt hrow
      rcases hcase with hl | ⟨hl, hl2⟩
      all_goals
        go_wp2_with fail
        go_ret
        exact ⟨by rw [hq2.out]; rfl, kk⟩
end Go.Proofs.Ytahopbjoaoiknaa

/- Tags: the reference's Sort: it tells sortL, or that it may not be. -/
import Derived.Test.YtcamhpjgpjihhaaTagsL
import Derived.Test.YtcamhpjgpjihhaaApd
namespace Go.Proofs.Ytcamhpjgpjihhaa
open Go.RowKit

def OwnS (w : World) (B : Nat) (v : Value) (l : List ByteArray) : Prop := w.ownsRow B 9 1 v l.length (l.map Value.string)

theorem strs_of_own {w : World} {B : Nat} {v : Value} {l : List ByteArray} (h : OwnS w B v l) : Strs w v l := by
  obtain ⟨_, h⟩ := h
  rcases h with ⟨rfl, h0⟩ | ⟨g, cap, cur, rfl, hg, hb, hc1, hc2, hcur, ht⟩
  · obtain rfl : l = [] := List.eq_nil_of_length_eq_zero h0
    exact RowN.nil _ _ _
  · refine ⟨some ⟨g, 0, none⟩, cap, rfl, hc1, hc2, fun i hi => ⟨g, 0, [.string l[i]], rfl, rfl, fun j hj => ?_, rfl⟩⟩
    obtain rfl : j = 0 := by omega
    have hh : Blk w g cur 9 := hb
    rw [hh.cell, Nat.mul_one] at *
    have : (cur.toList.take l.length)[i]? = some (.string l[i]) := by rw [ht]; simp [hi]
    rw [List.getElem?_take_of_lt hi] at this
    simpa using this

theorem OwnS.nil (w : World) (B : Nat) : OwnS w B (.slice none 0 0) [] := ⟨rfl, .inl ⟨rfl, rfl⟩⟩

theorem infoStr : (Try.prog.info? 9).map (fun i => (i.zero, i.size, i.bytes)) = some (some (.string ByteArray.empty), 1, 16) := by kernel_rfl

/-- Tags put ahead of a place, and the rest. -/
def InsInv (t : ByteArray) (ol xs : List ByteArray) (j : Nat) (d : Bool) : Prop :=
  if d = true then xs.length = j + 1 ∧ xs ++ ol.drop j = insL t ol else xs.length = j ∧ insL t ol = xs ++ insL t (ol.drop j)

theorem ins_true {t : ByteArray} {ol xs : List ByteArray} {j : Nat} (h : InsInv t ol xs j true) (hj : j < ol.length) : InsInv t ol (xs ++ [ol[j]]) (j + 1) true := by
  unfold InsInv at *
  rw [if_pos rfl] at *
  rw [← h.2, List.drop_eq_getElem_cons hj]
  simp [h.1]
theorem ins_here {t : ByteArray} {ol xs : List ByteArray} {j : Nat} (h : InsInv t ol xs j false) (hj : j < ol.length) (hl : Op.bytesLess t.toList (ol[j]).toList = true) : InsInv t ol (xs ++ [t] ++ [ol[j]]) (j + 1) true := by
  unfold InsInv at *
  rw [if_neg (by simp)] at h
  rw [if_pos rfl, h.2, List.drop_eq_getElem_cons hj, insL, if_pos hl]
  simp [h.1]
theorem ins_past {t : ByteArray} {ol xs : List ByteArray} {j : Nat} (h : InsInv t ol xs j false) (hj : j < ol.length) (hl : Op.bytesLess t.toList (ol[j]).toList = false) : InsInv t ol (xs ++ [ol[j]]) (j + 1) false := by
  unfold InsInv at *
  rw [if_neg (by simp)] at *
  rw [h.2, List.drop_eq_getElem_cons hj, insL, if_neg (by simp [hl])]
  simp [h.1]
theorem ins_end_true {t : ByteArray} {ol xs : List ByteArray} (h : InsInv t ol xs ol.length true) : xs = insL t ol := by
  unfold InsInv at h
  rw [if_pos rfl] at h
  simpa using h.2
theorem ins_end_false {t : ByteArray} {ol xs : List ByteArray} (h : InsInv t ol xs ol.length false) : xs ++ [t] = insL t ol := by
  unfold InsInv at h
  rw [if_neg (by simp)] at h
  have := h.2
  simp [insL] at this
  exact this.symm
theorem ins_len {t : ByteArray} {ol xs : List ByteArray} {j : Nat} {d : Bool} (h : InsInv t ol xs j d) : xs.length ≤ j + 1 := by
  unfold InsInv at h
  split at h <;> omega

def SoRel (w : World) (l : List ByteArray) (v i : Value) (wr : World) : Prop :=
  ∃ (k : Nat) (ol : List ByteArray), k ≤ l.length ∧ i = .int .i64 k ∧ Strs wr v ol ∧ ol.length ≤ 8 ∧ Hid ((l.take k).foldl stepL [] = ol) ∧ Kp (fun _ => False) w wr
def SiRel (w : World) (t : ByteArray) (ol : List ByteArray) (v d i : Value) (wr : World) : Prop :=
  ∃ (j : Nat) (b : Bool) (xs : List ByteArray), j ≤ ol.length ∧ i = .int .i64 j ∧ d = .bool b ∧ OwnS wr w.heap.size v xs ∧ InsInv t ol xs j b ∧ Kp (fun _ => False) w wr

def RefSortPost (l : List ByteArray) (w : World) (e : Ending) (w' : World) : Prop :=
  ∃ v', e = .returned (.tuple #[if okL (sortL l) = true then v' else .slice none 0 0, .bool (okL (sortL l))]) ∧ (okL (sortL l) = true → Strs w' v' (sortL l)) ∧ Kp (fun _ => False) w w'

theorem own_app {w2 : World} {B : Nat} {v2 : Value} {xs : List ByteArray} {t : ByteArray} (h : w2.ownsRow B 9 1 v2 (xs.length + 1) (xs.map Value.string ++ #[Value.string t].toList)) : OwnS w2 B v2 (xs ++ [t]) := by
  unfold OwnS
  simpa using h

theorem kp_own {B : Nat} {w0 w1 w2 : World} {v : Value} {xs : List ByteArray} (ho : OwnS w1 B v xs) (hB : w0.heap.size ≤ B) (k : Kp (fun _ => False) w0 w1) (hg : w1.grownBy w2 v.ownBlock) : Kp (fun _ => False) w0 w2 :=
  k.then_ (Kp.of_grown (S := fun g => B ≤ g) hg (fun i h => (own_base' ho i h).1)) (fun i hi h => absurd hi (by omega))

set_option maxHeartbeats 2000000 in
theorem ref_sort (v : Value) (l : List ByteArray) (w : World) (h : Strs w v l) :
    Calls Try.prog 20 #[v] w (RefSortPost l w) := by
  obtain ⟨A, cap, rfl, hlc, hcm, hrow⟩ := h.one
  have hlm : l.length ≤ 9223372036854775807 := by simp only [maxLen] at hcm; omega
  clear hlc hcm h
  have kk := Kp.refl (fun _ => False) w
  go_enter Try.func20, Try.ntmps20
  go_wp2_with fail
  go_loopw [4, 5] (fun v i wr => SoRel w l v i wr) (fun _ i _ => l.length - (intOf i).toNat)
  case atStart => exact ⟨0, [], by omega, rfl, RowN.nil _ _ _, by simp, rfl, kk⟩
  case round =>
    clear kk
    obtain ⟨k, ol, hk, rfl, hol, hol8, hfold, kk⟩ := hrel
    by_cases hlt : k < l.length
    · obtain ⟨b, off, rfl, hc0⟩ := hrow k hlt
      have hrow := Lib.hid hrow
      have hstep : Hid ((l.take (k + 1)).foldl stepL [] = stepL ol l[k]) := by
        unfold Hid
        rw [List.take_succ_eq_append_getElem hlt, List.foldl_append, hfold.out]
        rfl
      have hlast : Hid (8 < (stepL ol l[k]).length → okL (sortL l) = false) := fun h9 => by
        have h1 : sortL l = (l.drop (k + 1)).foldl stepL (stepL ol l[k]) := by
          rw [← hstep.out, ← List.foldl_append, List.take_append_drop, fold_sort]
        have h2 : Rise (stepL ol l[k]) := by
          rw [← hstep.out]
          exact (fold_step (l.take (k + 1)) [] (by simp [Rise, bytesL])).1
        have h3 := (fold_step (l.drop (k + 1)) _ h2).2.2
        rw [← h1] at h3
        unfold okL
        simp
        intro h
        omega
      have hc := kk.cell0 hc0
      have hol2 := hol
      obtain ⟨oA, ocap, rfl, hoc1, hoc2, horow⟩ := hol.one
      have horow := Lib.hid horow
      clear hc0 hoc1 hoc2
      generalize hx : l[k] = t at *
      have hx' := Lib.hid hx
      clear hx hfold
      go_wp2_with fail
      refine (ref_has _ _ t _ hol).mono ?_
      rintro e w1 ⟨rfl, rfl⟩
      obtain ⟨q, hq⟩ : ∃ q, hasL ol t = q := ⟨_, rfl⟩
      rw [hq]
      have hq := Lib.hid hq
      have hol := Lib.hid hol2
      clear hol2
      cases q
      case true =>
        have hs : stepL ol t = ol := by unfold stepL; rw [if_pos hq.out]
        rw [hs] at hstep
        have hol := hol.out
        clear hs
        go_wp2_with fail
        go_roundw
        case rel => exact ⟨k + 1, ol, by omega, by go_num, hol, hol8, hstep, kk⟩
        case measure => simp [intOf]; omega
      case false =>
        have hs : stepL ol t = insL t ol := by unfold stepL; rw [if_neg (by rw [hq.out]; simp)]
        rw [hs] at hstep hlast
        clear hs hq
        generalize wr = w1 at *
        have k1 := Kp.refl (fun _ => False) w1
        have ho1 : ∀ u ∈ (#[Value.string t] : Array Value).toList, u.oneCell' = true := by simp [Value.oneCell']
        go_wp2_with fail
        go_loopw [6, 7, 8] (fun v d i w2 => SiRel w1 t ol v d i w2) (fun _ _ i _ => ol.length - (intOf i).toNat)
        case atStart => exact ⟨0, false, [], by omega, rfl, rfl, OwnS.nil _ _, ⟨rfl, by simp⟩, k1⟩
        case round =>
          clear k1
          obtain ⟨j, d, xs, hj, rfl, rfl, hown, hins, k1⟩ := hrel
          have hB : w1.heap.size ≤ wr.heap.size := k1.size
          have hlx := ins_len hins
          obtain ⟨xA, xcap, rfl, hx1, hx2, -⟩ := (strs_of_own hown).one
          by_cases hjl : j < ol.length
          · obtain ⟨b2, off2, rfl, hc2⟩ := horow.out j hjl
            have d1 := k1.cell0 hc
            have d2 := k1.cell0 hc2
            have hi1 : Hid (InsInv t ol xs j true → InsInv t ol (xs ++ [ol[j]]) (j + 1) true) := fun h => ins_true h hjl
            have hi2 : Hid (InsInv t ol xs j false → Op.bytesLess t.toList (ol[j]).toList = true → InsInv t ol (xs ++ [t] ++ [ol[j]]) (j + 1) true) := fun h => ins_here h hjl
            have hi3 : Hid (InsInv t ol xs j false → Op.bytesLess t.toList (ol[j]).toList = false → InsInv t ol (xs ++ [ol[j]]) (j + 1) false) := fun h => ins_past h hjl
            generalize ol[j] = y at *
            have ho2 : ∀ u ∈ (#[Value.string y] : Array Value).toList, u.oneCell' = true := by simp [Value.oneCell']
            cases d
            case true =>
              have hins := Lib.hid (hi1.out hins)
              clear hi1 hi2 hi3
              go_wp2_with fail
              go_quiet (fail)
              have hown : OwnS (wr.drewN nq) w1.heap.size (.slice xA xs.length xcap) xs := hown
              have k1 := k1.drewN nq
              have d2 := k1.cell0 hc2
              go_wp2_with (at_builtin; refine wp_append1 (W := wr.drewN nq) w1.heap.size rfl (.tmp 47) (.tmp 52) 22 9 (.string ByteArray.empty) 1 16 rfl Try.underlying22 infoStr rfl (by decide) _ xs.length _ #[.string y] rfl rfl rfl ho2 hown (by simpa using hB) (by omega) (by omega) ?_)
              intro v1 w6 hown6 hg6 _
              have k6 := kp_own hown (Nat.le_refl _) k1 hg6
              have hown6 := own_app hown6
              clear hg6 d1 d2 hown
              go_wp2_with fail
              go_roundw
              case rel => exact ⟨j + 1, true, xs ++ [y], by omega, by go_num, rfl, hown6, hins.out, k6⟩
              case measure => simp [intOf]; omega
            case false =>
              obtain ⟨z, hz⟩ : ∃ z, Op.bytesLess t.toList y.toList = z := ⟨_, rfl⟩
              cases z
              case false =>
                have hins := Lib.hid (hi3.out hins hz)
                clear hi1 hi2 hi3
                go_wp2_with fail
                go_quiet (fail)
                have hown : OwnS (wr.drewN nq) w1.heap.size (.slice xA xs.length xcap) xs := hown
                have k1 := k1.drewN nq
                have d2 := k1.cell0 hc2
                go_wp2_with (at_builtin; refine wp_append1 (W := wr.drewN nq) w1.heap.size rfl (.tmp 47) (.tmp 52) 22 9 (.string ByteArray.empty) 1 16 rfl Try.underlying22 infoStr rfl (by decide) _ xs.length _ #[.string y] rfl rfl rfl ho2 hown (by simpa using hB) (by omega) (by omega) ?_)
                intro v1 w6 hown6 hg6 _
                have k6 := kp_own hown (Nat.le_refl _) k1 hg6
                have hown6 := own_app hown6
                clear hg6 d1 d2 hown
                go_wp2_with fail
                go_roundw
                case rel => exact ⟨j + 1, false, xs ++ [y], by omega, by go_num, rfl, hown6, hins.out, k6⟩
                case measure => simp [intOf]; omega
              case true =>
                have hins := Lib.hid (hi2.out hins hz)
                clear hi1 hi2 hi3
                go_wp2_with fail
                go_quiet (fail)
                have hown : OwnS (wr.drewN nq) w1.heap.size (.slice xA xs.length xcap) xs := hown
                have k1 := k1.drewN nq
                have d1 := k1.cell0 hc
                have d2 := k1.cell0 hc2
                clear hz
                go_wp2_with (at_builtin; refine wp_append1 (W := wr.drewN nq) w1.heap.size rfl (.tmp 40) (.tmp 45) 22 9 (.string ByteArray.empty) 1 16 rfl Try.underlying22 infoStr rfl (by decide) _ xs.length _ #[.string t] rfl rfl rfl ho1 hown (by simpa using hB) (by omega) (by omega) ?_)
                intro v1 w6 hown6 hg6 _
                have k6 := kp_own hown (Nat.le_refl _) k1 hg6
                have hown6 := own_app hown6
                have hB6 : w1.heap.size ≤ w6.heap.size := k6.size
                obtain ⟨yA, ycap, rfl, -, -, -⟩ := (strs_of_own hown6).one
                have hlx6 : (xs ++ [t]).length ≤ 10 := by simp; omega
                have d2 := k6.cell0 hc2
                clear hg6 d1 hown
                generalize xs ++ [t] = ys at *
                go_wp2_with (at_builtin; refine wp_append1 (W := w6) w1.heap.size rfl (.tmp 47) (.tmp 52) 22 9 (.string ByteArray.empty) 1 16 rfl Try.underlying22 infoStr rfl (by decide) _ ys.length _ #[.string y] rfl rfl rfl ho2 hown6 (by omega) (by omega) (by omega) ?_)
                intro v7 w7 hown7 hg7 _
                have k7 := kp_own hown6 (Nat.le_refl _) k6 hg7
                have hown7 := own_app hown7
                clear hg7 d2 hown6 k6
                go_wp2_with fail
                go_roundw
                case rel => exact ⟨j + 1, true, ys ++ [y], by omega, by go_num, rfl, hown7, hins.out, k7⟩
                case measure => simp [intOf]; omega
          · obtain rfl : j = ol.length := by omega
            have d1 := k1.cell0 hc
            have kw := kk.trans k1
            cases d
            case true =>
              have he := Lib.hid (ins_end_true hins)
              have hs6 := strs_of_own hown
              have hlen : Hid (xs.length = (insL t ol).length) := by rw [he.out]; rfl
              clear hins hown
              by_cases h9 : 8 < xs.length
              · have hd8 : decide ((8 : Int) < (xs.length : Int)) = true := by simp; omega
                have hno := Lib.hid (hlast.out (by rw [← hlen.out]; exact h9))
                clear hlast
                go_wp2_with fail
                go_ret2
                exact ⟨.slice none 0 0, by rw [hno.out]; rfl, fun h => (by rw [hno.out] at h; cases h), kw⟩
              · have hd8 : decide ((8 : Int) < (xs.length : Int)) = false := by simp; omega
                go_wp2_with fail
                exact ⟨⟨k + 1, xs, by omega, by go_num, hs6, by omega, (by rw [he.out]; exact hstep), kw⟩, by simp [intOf]; omega⟩
            case false =>
              have he := Lib.hid (ins_end_false hins)
              clear hins
              go_wp2_with (at_builtin; refine wp_append1 (W := wr) w1.heap.size rfl (.tmp 56) (.tmp 61) 22 9 (.string ByteArray.empty) 1 16 rfl Try.underlying22 infoStr rfl (by decide) _ xs.length _ #[.string t] rfl rfl rfl ho1 hown (by omega) (by omega) (by omega) ?_)
              intro v1 w6 hown6 hg6 _
              have k6 := kp_own hown (Nat.le_refl _) k1 hg6
              have kw := kk.trans k6
              have hown6 := own_app hown6
              have hs6 := strs_of_own hown6
              obtain ⟨yA, ycap, rfl, -, -, -⟩ := hs6.one
              clear hown6 hg6 hown
              generalize xs ++ [t] = ys at *
              have hlen : Hid (ys.length = (insL t ol).length) := by rw [he.out]; rfl
              by_cases h9 : 8 < ys.length
              · have hd8 : decide ((8 : Int) < (ys.length : Int)) = true := by simp; omega
                have hno := Lib.hid (hlast.out (by rw [← hlen.out]; exact h9))
                clear hlast
                go_wp2_with fail
                go_ret2
                exact ⟨.slice none 0 0, by rw [hno.out]; rfl, fun h => (by rw [hno.out] at h; cases h), kw⟩
              · have hd8 : decide ((8 : Int) < (ys.length : Int)) = false := by simp; omega
                go_wp2_with fail
                exact ⟨⟨k + 1, ys, by omega, by go_num, hs6, by omega, (by rw [he.out]; exact hstep), kw⟩, by simp [intOf]; omega⟩
    · obtain rfl : k = l.length := by omega
      have hall : ol = sortL l := by rw [← hfold.out, List.take_length, fold_sort]
      subst hall
      clear hfold hrow
      have hol' := Lib.hid hol
      obtain ⟨oA, ocap, rfl, -, -, -⟩ := hol.one
      go_wp2_with fail
      refine (ref_fine _ _ _ hol).mono ?_
      rintro e w5 ⟨rfl, k5⟩
      have kk := kk.trans k5
      have hs5 := Lib.hid (hol'.out.keeps (Keeps.kp k5))
      clear hol hol' k5
      obtain ⟨z, hz⟩ : ∃ z, okL (sortL l) = z := ⟨_, rfl⟩
      rw [hz]
      have hzz := Lib.hid hz
      clear hz
      cases z
      · go_wp2_with fail
        go_ret2
        exact ⟨.slice none 0 0, by rw [hzz.out]; rfl, fun h => (by rw [hzz.out] at h; cases h), kk⟩
      · go_wp2_with fail
        go_ret2
        exact ⟨_, by rw [hzz.out]; rfl, fun _ => hs5.out, kk⟩
end Go.Proofs.Ytcamhpjgpjihhaa

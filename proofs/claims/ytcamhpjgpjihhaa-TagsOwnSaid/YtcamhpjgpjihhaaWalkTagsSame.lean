/- TagsSame: tags in order stay as they are when they are put in order; in what order they were, and how often each was there, makes no difference: the walk. -/
import Derived.Test.YtcamhpjgpjihhaaWalkTagsSorts
namespace Go.Proofs.Ytcamhpjgpjihhaa
open Go.RowKit

def TwRel (w : World) (l : List ByteArray) (v i : Value) (wr : World) : Prop :=
  ∃ (k : Nat) (xs : List ByteArray), k ≤ l.length ∧ i = .int .i64 ((k : Int) - 1) ∧ OwnS wr w.heap.size v xs ∧ Hid (∀ t, t ∈ xs ↔ t ∈ l.drop k) ∧ xs.length + 2 * k = 2 * l.length ∧ Kp (fun _ => False) w wr

theorem tw_mem {l xs : List ByteArray} {k : Nat} (hk : k < l.length) (h : ∀ t, t ∈ xs ↔ t ∈ l.drop (k + 1)) : ∀ t, t ∈ xs ++ [l[k], l[k]] ↔ t ∈ l.drop k := by
  intro t
  have hd : t ∈ l.drop k ↔ t = l[k] ∨ t ∈ l.drop (k + 1) := by
    conv => lhs; rw [List.drop_eq_getElem_cons hk]
    exact List.mem_cons
  rw [List.mem_append, h t, hd]
  simp
  exact Or.comm

theorem kp_own2 {w0 w1 w2 : World} {n : Nat} {v : Value} (ho : ∀ g, v.ownBlock = some g → w0.heap.size ≤ g ∧ g < n) (k : Kp (fun _ => False) w0 w1) (hg : w1.grownBy w2 v.ownBlock) : Kp (fun _ => False) w0 w2 :=
  k.then_ (Kp.of_grown (S := fun g => w0.heap.size ≤ g) hg (fun i h => (ho i h).1)) (fun i hi h => absurd hi (by omega))

set_option maxHeartbeats 2000000 in
theorem tagsSame_walk (v0 : Value) (w : World) (h0 : Came Try.prog w 22 v0) :
    Calls Try.prog 6 #[v0] w fun e w' => e = .returned (.bool true) ∧ Below w.heap.size w w' := by
  obtain ⟨l, hl⟩ := came_strs h0
  clear h0
  have kk := Kp.refl (fun _ => False) w
  obtain ⟨A, cap, rfl, hlc, hcm, hrow⟩ := hl.one
  have hrow := Lib.hid hrow
  have hlm : l.length ≤ 9223372036854775807 := by simp only [maxLen] at hcm; omega
  clear hcm hlc
  go_enter Try.func6, Try.ntmps6
  go_wp2_with fail
  refine (tags_alive _).mono ?_
  rintro e w1 ⟨rfl, k1⟩
  have kk := kk.trans k1
  have hlH := Lib.hid hl
  clear hl k1
  go_wp2_with fail
  refine (strs_great _ _ _ (hlH.out.keeps (Keeps.kp kk))).mono ?_
  rintro e w2 ⟨g, rfl, hg, k2⟩
  have kk := kk.trans k2
  clear k2
  cases g
  case true =>
    go_wp2_with fail
    go_ret
    exact ⟨rfl, kk.below⟩
  have hlen : l.length ≤ 300 := (hg rfl).1
  clear hg
  have w0 : IntKind.i64.wrap ((l.length : Int) - 1) = (l.length : Int) - 1 := IntWalk.i64_in _ ⟨by omega, by omega⟩
  go_wp2_with fail
  go_loopw [3, 4] (fun v i wr => TwRel w l v i wr) (fun _ i _ => (intOf i + 1).toNat)
  case atStart => exact ⟨l.length, [], by omega, rfl, OwnS.nil _ _, (by intro t; simp), by simp, kk⟩
  case round =>
    clear kk w0
    obtain ⟨k1, xs, hk, rfl, hown, hmem, hxl, kk⟩ := hrel
    obtain ⟨xA, xcap, rfl, -, -, -⟩ := (strs_of_own hown).one
    by_cases hk0 : k1 = 0
    · subst hk0
      have hd0 : decide ((0 : Int) ≤ ((0 : Nat) : Int) - 1) = false := by simp
      have hxs := strs_of_own hown
      have hso : Hid (sortL xs = sortL l) := sortL_congr fun t => by rw [hmem.out t]; simp
      have hxl : xs.length ≤ 600 := by omega
      have hxsH := Lib.hid hxs
      have S1 := Lib.hid (prog_sort _ _ _ (hlH.out.keeps (Keeps.kp kk)) (by omega))
      clear hmem hown hrow hxs
      go_wp2_with fail
      refine S1.out.mono ?_
      rintro e w3 ⟨v3, rfl, hv3, k3⟩
      have kk := kk.trans (Kp.of_below _ k3)
      have hxsH := Lib.hid (hxsH.out.keeps (Keeps.below k3))
      have S2 := prog_sort _ _ _ hxsH.out (by omega)
      unfold SortPost at S2
      rw [hso.out] at S2
      have S2 := Lib.hid S2
      obtain ⟨z, hz⟩ : ∃ z, Hid (okL (sortL l) = z) := ⟨_, rfl⟩
      have hc : Hid (checkN (sortL l) = if z = true then 0 else 30) := by unfold Hid checkN; rw [hz.out]
      have hv3 := Lib.hid hv3
      rw [hz.out, hc.out]
      clear S1 k3
      cases z
      case false =>
        go_wp2_with fail
        refine S2.out.mono ?_
        rintro e w4 ⟨v4, rfl, hv4, k4⟩
        have kk := kk.trans (Kp.of_below _ k4)
        rw [hz.out, hc.out]
        have S3 := Lib.hid (prog_sort (.slice none 0 0) [] w4 (RowN.nil _ _ _) (by simp))
        clear S2 k4 hv4
        go_wp2_with fail
        refine S3.out.mono ?_
        rintro e w5 ⟨v5, rfl, hv5, k5⟩
        have kk := kk.trans (Kp.of_below _ k5)
        rw [sort_nil, show okL [] = true by decide, show checkN [] = 0 by decide]
        have hS := Lib.hid (strs_same (.slice none 0 0) (.slice none 0 0) [] w5 (RowN.nil _ _ _) (RowN.nil _ _ _))
        clear S3 k5 hv5
        go_wp2_with fail
        refine hS.out.mono ?_
        rintro e w6 ⟨rfl, k6⟩
        have kk := kk.trans k6
        go_wp2_with fail
        go_ret
        exact ⟨rfl, kk.below⟩
      case true =>
        go_wp2_with fail
        refine S2.out.mono ?_
        rintro e w4 ⟨v4, rfl, hv4, k4⟩
        have kk := kk.trans (Kp.of_below _ k4)
        rw [hz.out, hc.out]
        have hv3 := Lib.hid (hv3.out.keeps (Keeps.below k4))
        have S3 := prog_sort _ _ _ hv3.out (by
          have := stepL_length [] emp
          have h8 := hz.out
          unfold okL at h8
          simp at h8
          omega)
        unfold SortPost at S3
        rw [sortL_idem, hz.out, hc.out] at S3
        have S3 := Lib.hid S3
        have hv4 := Lib.hid hv4
        clear S2 k4
        go_wp2_with fail
        refine S3.out.mono ?_
        rintro e w5 ⟨v5, rfl, hv5, k5⟩
        have kk := kk.trans (Kp.of_below _ k5)
        have hv3 := Lib.hid (hv3.out.keeps (Keeps.below k5))
        have hv4 := Lib.hid (hv4.out.keeps (Keeps.below k5))
        have hS := Lib.hid (strs_same _ _ _ _ hv3.out hv4.out)
        have hv5 := Lib.hid hv5
        clear S3 k5
        go_wp2_with fail
        refine hS.out.mono ?_
        rintro e w6 ⟨rfl, k6⟩
        have kk := kk.trans k6
        have hS2 := Lib.hid (strs_same _ _ _ _ (hv3.out.keeps (Keeps.kp k6)) (hv5.out.keeps (Keeps.kp k6)))
        clear hS k6
        go_wp2_with fail
        refine hS2.out.mono ?_
        rintro e w7 ⟨rfl, k7⟩
        have kk := kk.trans k7
        clear hS2 k7
        go_wp2_with fail
        go_ret
        exact ⟨rfl, kk.below⟩
    · obtain ⟨k, rfl⟩ : ∃ k, k1 = k + 1 := ⟨k1 - 1, by omega⟩
      have hkl : k < l.length := by omega
      obtain ⟨b, off, rfl, hc⟩ := hrow.out k hkl
      have hm := Lib.hid (tw_mem hkl hmem.out)
      have d := kk.cell0 hc
      generalize l[k] = t at *
      have hd0 : decide ((0 : Int) ≤ ((k + 1 : Nat) : Int) - 1) = true := by simp
      have e1 : (((k + 1 : Nat) : Int) - 1) = (k : Int) := by omega
      rw [e1] at hd0 ⊢
      have hB : w.heap.size ≤ wr.heap.size := kk.size
      obtain ⟨i0, hi, hzz⟩ := Option.map_eq_some_iff.1 infoStr
      simp only [Prod.mk.injEq] at hzz
      have hI := Lib.hid (And.intro hi hzz)
      have hownH := Lib.hid hown
      have ho2 : Hid (∀ u ∈ [Value.string t, Value.string t], u.oneCell' = true) := by intro u hu; simp at hu; subst hu; rfl
      have hnews := Lib.hid (World.news_of_block (w := wr.alloc (.cells #[.string t, .string t] 9)) (B := wr.heap.size) (cs := #[.string t, .string t]) (t := 9) (fr := (0, 0)) (Blk.new wr _ _))
      have wk : IntKind.i64.wrap ((k : Int) - 1) = (k : Int) - 1 := IntWalk.i64_in _ ⟨by omega, by omega⟩
      clear hmem hrow hc hi hzz hown hk hk0
      go_wp2_with fail
      go_region_law
        ((refine step_append_lies _ (by rfl) _ _ _ (by rfl) w.heap.size 9 i0 (.string ByteArray.empty) 1 16 Try.underlying22 hI.out.1 hI.out.2.1 hI.out.2.2.1 hI.out.2.2.2 rfl (by omega) (.slice xA xs.length xcap) xs.length (xs.map Value.string) (by rfl) (hownH.out.alloc _)
            ⟨wr.heap.size, 0, none⟩ 2 2 [.string t, .string t] (by rfl) rfl hnews.out ho2.out (by omega) (by simp only [maxLen]; omega) (by omega) (by simp; omega) (wr.heap.size + 1) (by simp) ?_; intro gg cap2 w1 hown1 hgrow hat hlt))
      all_goals
        have k9 : Kp (fun _ => False) w w1 := by
          first
          | exact kp_own2 (own_base' hownH.out) (kk.alloc _) hgrow
          | exact kp_own2 (own_base' hownH.out) (kk.alloc _).drew hgrow
          | exact kp_own2 (own_base' hownH.out) (kk.alloc _).drew.drew hgrow
          | exact kp_own2 (own_base' hownH.out) (kk.drew.alloc _).drew hgrow
          | exact kp_own2 (own_base' hownH.out) (kk.drew.alloc _) hgrow
        have hown9 : OwnS w1 w.heap.size (.slice (some ⟨gg, 0, none⟩) (xs.length + 2) cap2) (xs ++ [t, t]) := by
          unfold OwnS
          simpa using hown1
        clear hownH hown1 hgrow hat hlt hB hnews ho2 kk d
        go_wp2_with fail
        go_roundw
        case rel => exact ⟨k, xs ++ [t, t], by omega, rfl, hown9, hm.out, by simp; omega, k9⟩
        case measure => simp [intOf]
end Go.Proofs.Ytcamhpjgpjihhaa

/- The reference's table of cursors: Open when full. (Printed by gen_rf7.py.) -/
import Derived.Test.YtcamhpjgpjihhaaRf6
namespace Go.Proofs.Ytcamhpjgpjihhaa
set_option linter.unusedVariables false
set_option linter.unusedSimpArgs false
open Go.RowKit
attribute [local go_sem ↓] loadC
attribute [local go_sem] isPtrA_ptr adrOf_ptr

/-- The first of those that were used last the longest ago, of the first k. -/
def EldTo (rs : List RC) (k a : Nat) : Prop := ∃ _ : a < rs.length, (∀ j (h : j < rs.length), j < k → rs[a].used ≤ rs[j].used) ∧ (∀ j (h : j < rs.length), j < a → rs[a].used < rs[j].used) ∧ (a < k ∨ a = 0)
theorem EldTo.zero {rs : List RC} (h : 0 < rs.length) : EldTo rs 0 0 := ⟨h, fun j _ h => absurd h (by omega), fun j _ h => absurd h (by omega), .inr rfl⟩
theorem EldTo.take {rs : List RC} {k a : Nat} (h : EldTo rs k a) (hk : k < rs.length) (hl : ∃ _ : a < rs.length, rs[k].used < rs[a].used) : EldTo rs (k + 1) k := by
  obtain ⟨h0, h1, h2, _⟩ := h
  obtain ⟨_, hl⟩ := hl
  refine ⟨hk, fun j hj hjk => ?_, fun j hj hjk => ?_, .inl (by omega)⟩
  · by_cases e : j = k
    · subst e; omega
    · have := h1 j hj (by omega); omega
  · have := h1 j hj hjk; omega
theorem EldTo.keep {rs : List RC} {k a : Nat} (h : EldTo rs k a) (hk : k < rs.length) (hl : ∃ _ : a < rs.length, ¬ rs[k].used < rs[a].used) : EldTo rs (k + 1) a := by
  obtain ⟨h0, h1, h2, h3⟩ := h
  obtain ⟨_, hl⟩ := hl
  refine ⟨h0, fun j hj hjk => ?_, h2, by omega⟩
  by_cases e : j = k
  · subst e; omega
  · exact h1 j hj (by omega)

def FullRel (w0 w : World) (B c : Nat) (idle last : Int) (rs : List RC) (f : Array Value) (va vi : Value) (wr : World) : Prop :=
  ∃ k a : Nat, k ≤ rs.length ∧ vi = .int .i64 k ∧ va = .int .i64 a ∧ EldTo rs k a ∧ RTab w0 wr B c idle last rs ∧ Blk wr w.heap.size f 24 ∧ Kp (fun _ => False) w wr
def RFullPost (w0 w : World) (B c : Nat) (idle last : Int) (rs : List RC) (r : RC) (e : Ending) (w' : World) : Prop :=
  ∃ a, ∃ h : a < rs.length, EldTo rs rs.length a ∧ ROpenPost w0 w B c idle last rs[a].ask.pin (rs.eraseIdx a ++ [r]) e w'

set_option maxRecDepth 8000 in
set_option maxHeartbeats 8000000 in
theorem r14_open_full {w0 w : World} {B c : Nat} {idle last : Int} {rs : List RC} (owner pin now : Int) (v a y n : Value) (vec : List Int) (al an no : List ByteArray) (h : RTab w0 w B c idle last rs) (hB : B ≤ w.heap.size) (hl : 8 ≤ rs.length) (hl2 : rs.length ≤ 1000) (h0 : 0 ≤ last) (h1 : last < 4294967295)
    (harg : AskR w0 [.int .i64 pin, v, a, y, n, .bool false, .int .i64 0, .int .u32 0] ⟨pin, vec, al, an, no, false, 0, 0⟩) :
    Calls Try.prog 37 #[.pointer (some ⟨c, 0, none⟩), .int .u64 owner, .int .i64 pin, v, .agg #[a, y, n], .int .u32 now] w (RFullPost w0 w B c idle (last + 1) rs (newR (last + 1) owner pin vec al an no now)) := by
  have hwr : IntKind.u32.wrap (last + 1) = last + 1 := by rw [show IntKind.u32.wrap (last + 1) = (last + 1) % 4294967296 from rfl]; omega
  have hargH := Lib.hid harg
  obtain ⟨v', a', y', n', heq, i1, i2, i3, i4⟩ := harg
  simp only [List.cons.injEq, and_true, true_and] at heq
  obtain ⟨rfl, rfl, rfl, rfl⟩ := heq
  obtain ⟨VA, vc, rfl, -⟩ := i1.one
  obtain ⟨AA, ac, rfl, -⟩ := i2.one
  obtain ⟨YA, yc, rfl, -⟩ := i3.one
  obtain ⟨NA, nc, rfl, -⟩ := i4.one
  have e8 : decide ((8 : Int) ≤ (rs.length : Int)) = true := decide_eq_true (by omega)
  have hT0 := h.kp ((Kp.refl _ w).alloc (.cells #[(.slice AA al.length ac), (.slice YA an.length yc), (.slice NA no.length nc)] 24))
  have hF0 := Blk.new w #[(.slice AA al.length ac), (.slice YA an.length yc), (.slice NA no.length nc)] 24
  have k0 := (Kp.refl (fun _ => False) w).alloc (.cells #[(.slice AA al.length ac), (.slice YA an.length yc), (.slice NA no.length nc)] 24)
  obtain ⟨A0, cap0, c1, -, -⟩ := h.slice
  have hcl0 : c < w.heap.size := cell_block c1
  have hcn0 : ¬ c = w.heap.size := by omega
  clear h i1 i2 i3 i4
  go_enter Try.func37, Try.ntmps37
  go_wp2_with fail
  go_loopw [15, 16] (fun va vi wr => FullRel w0 w B c idle last rs #[(.slice AA al.length ac), (.slice YA an.length yc), (.slice NA no.length nc)] va vi wr) (fun _ vi _ => rs.length - (intOf vi).toNat)
  case atStart => exact ⟨0, 0, by omega, rfl, rfl, EldTo.zero (by omega), hT0, hF0, k0⟩
  case round =>
    clear hT0 hF0 k0 c1
    obtain ⟨k, at', hk, rfl, rfl, hE, hT, hF, kk⟩ := hrel
    obtain ⟨hal, -⟩ := id hE
    obtain ⟨A', cap', d1, d0, d2⟩ := hT.slice
    by_cases hkl : k < rs.length
    · obtain ⟨g, cap2, v, a, y, z, ev, e1, -, f2, -, -, -⟩ := hT.look hkl
      obtain ⟨g', cap2', v', a', y', z', ev', e1', -, f2', -, -, -⟩ := hT.look hal
      rw [d1] at e1
      simp only [Option.some.injEq, Value.slice.injEq] at e1
      obtain ⟨rfl, -, rfl⟩ := e1
      rw [d1] at e1'
      simp only [Option.some.injEq, Value.slice.injEq, Addr.mk.injEq, and_true, true_and] at e1'
      obtain ⟨rfl, rfl⟩ := e1'
      have o11 := (f2 11 (by omega)).trans (show _ = some (Value.int .u32 rs[k].used) from rfl)
      have o11' := (f2' 11 (by omega)).trans (show _ = some (Value.int .u32 rs[at'].used) from rfl)
      have hTH := Lib.hid hT
      have hEH := Lib.hid hE
      have hFH := Lib.hid hF
      clear f2 f2' hT hE hF
      cases hS : decide (rs[k].used < rs[at'].used) with
      | true =>
        go_wp2_with fail
        go_quiet (fail)
        go_wp2_with fail
        go_roundw
        case rel => exact ⟨k + 1, k, by omega, by go_num, rfl, hEH.out.take hkl ⟨hal, by simpa using hS⟩, hTH.out.kp ((Kp.refl _ _).drewN _), hFH.out, kk.drewN _⟩
        case measure => simp [intOf]; omega
      | false =>
        go_wp2_with fail
        go_quiet (fail)
        go_wp2_with fail
        go_roundw
        case rel => exact ⟨k + 1, at', by omega, by go_num, rfl, hEH.out.keep hkl ⟨hal, by simpa using hS⟩, hTH.out.kp ((Kp.refl _ _).drewN _), hFH.out, kk.drewN _⟩
        case measure => simp [intOf]; omega
    · have hkE : k = rs.length := by omega
      subst hkE
      have e1 : decide (rs.length < rs.length) = false := by simp
      obtain ⟨g', cap2', v', a', y', z', ev', e1', -, f2', -, -, -⟩ := hT.look hal
      rw [d1] at e1'
      simp only [Option.some.injEq, Value.slice.injEq] at e1'
      obtain ⟨rfl, -, rfl⟩ := e1'
      have o2 := (f2' 2 (by omega)).trans (show _ = some (Value.int .i64 rs[at'].ask.pin) from rfl)
      have hC := Lib.hid (r14_cut hT (Nat.le_trans hB kk.size) hal hl2)
      have hEH := Lib.hid hE
      have hFH := Lib.hid hF
      clear f2' hT hE hF
      go_wp2_with fail
      refine hC.out.mono ?_
      rintro e w1 ⟨rfl, hT1, k1⟩
      clear hC o2 d0 d1 d2
      have hel : (rs.eraseIdx at').length = rs.length - 1 := List.length_eraseIdx_of_lt hal
      obtain ⟨rs', hrs'⟩ : ∃ rs', Hid (rs.eraseIdx at' = rs') := ⟨_, rfl⟩
      rw [hrs'.out] at hT1 hel
      have hel1 : rs'.length ≤ 1000 := by omega
      clear hel
      have hF1 := hFH.out.kt k1 (by unfold TR; decide)
      obtain ⟨A, cap, c1, -, c2⟩ := hT1.slice
      have hL := Lib.hid (hT1.last (last + 1))
      have hcl : c < w1.heap.size := cell_block c1
      have hcn : ¬ c = w1.heap.size := by omega
      obtain ⟨vt, hTb⟩ := hT1.blk
      have f2 := hTb.frozen 2
      have hfb : w.heap.size < w1.heap.size := hF1.lt
      have hfn : ¬ w.heap.size = w1.heap.size := by omega
      have hfc : c ≠ w.heap.size := by omega
      have F0 : (w1.setCell ⟨c, 2, none⟩ (.int .u32 (last + 1))).cell? ⟨w.heap.size, 0, none⟩ = some (.slice AA al.length ac) := by
        rw [World.cell?_setCell_other _ _ _ _ (by simp <;> omega)]; exact (hF1.cell 0).trans rfl
      have F1 : (w1.setCell ⟨c, 2, none⟩ (.int .u32 (last + 1))).cell? ⟨w.heap.size, 1, none⟩ = some (.slice YA an.length yc) := by
        rw [World.cell?_setCell_other _ _ _ _ (by simp <;> omega)]; exact (hF1.cell 1).trans rfl
      have F2 : (w1.setCell ⟨c, 2, none⟩ (.int .u32 (last + 1))).cell? ⟨w.heap.size, 2, none⟩ = some (.slice NA no.length nc) := by
        rw [World.cell?_setCell_other _ _ _ _ (by simp <;> omega)]; exact (hF1.cell 2).trans rfl
      have g1 : (w1.setCell ⟨c, 2, none⟩ (.int .u32 (last + 1))).cell? ⟨c, 1, none⟩ = some (.slice A rs'.length cap) := by
        rw [World.cell?_setCell_other _ _ _ _ (by simp)]
        exact c1
      have hBw1 : B ≤ w1.heap.size := by have := k1.size; have := kk.size; omega
      have kwH := Lib.hid ((Kt.of_kp kk).trans k1)
      clear hT1 hTb hF1 k1 kk
      go_wp2_with fail
      obtain ⟨hBc, vT, ms, p1, p2, p3⟩ := id hL.out.1
      have hvT := (p1.cell 1).symm.trans g1
      simp only [List.getElem?_toArray, List.getElem?_cons_succ, List.getElem?_cons_zero, Option.some.injEq] at hvT
      subst hvT
      have hn := Lib.hid p3.1
      have hown := p2.1
      rw [hn.out] at hown
      obtain ⟨_, _, -, -, g2⟩ := hL.out.1.slice
      have hsz : (w1.setCell ⟨c, 2, none⟩ (.int .u32 (last + 1))).heap.size = w1.heap.size := by simp
      have hlenB : rs'.length ≤ 1000 := by omega
      generalize hS : w1.setCell ⟨c, 2, none⟩ (.int .u32 (last + 1)) = S at *
      clear hS
      have hcS : ¬ c = S.heap.size := by rw [hsz]; exact hcn
      have hcL : c < S.heap.size := by rw [hsz]; exact hcl
      have hc1' : ¬ c = w1.heap.size + 1 := by omega
      have hc2' : ¬ c = w1.heap.size + 2 := by omega
      have hc3' : ¬ c = w1.heap.size + 1 + 1 := by omega
      have hcl1 : c < w1.heap.size + 1 := by omega
      have hcl2 : c < w1.heap.size + 2 := by omega
      have hcl3 : c < w1.heap.size + 1 + 1 := by omega
      obtain ⟨i0, hi0, hz0, hz1, hz2⟩ := info_parts infoC
      have hI := Lib.hid (And.intro hi0 (And.intro hz0 (And.intro hz1 hz2)))
      clear hi0 hz0 hz1 hz2
      have kA := ((Kp.refl (fun _ => False) S).alloc (.cells #[.bool false, .int .i64 0, .int .u32 0] 113)).alloc (.cells #[.int .u32 (last + 1), .int .u64 owner, .int .i64 pin, .slice VA vec.length vc, (.slice AA al.length ac), (.slice YA an.length yc), (.slice NA no.length nc), .bool false, .int .i64 0, .int .u32 0, .slice (some ⟨w1.heap.size, 0, none⟩) 1 1, .int .u32 now] 80)
      have hE1 : Blk ((S.alloc (.cells #[.bool false, .int .i64 0, .int .u32 0] 113)).alloc (.cells #[.int .u32 (last + 1), .int .u64 owner, .int .i64 pin, .slice VA vec.length vc, (.slice AA al.length ac), (.slice YA an.length yc), (.slice NA no.length nc), .bool false, .int .i64 0, .int .u32 0, .slice (some ⟨w1.heap.size, 0, none⟩) 1 1, .int .u32 now] 80)) w1.heap.size #[.bool false, .int .i64 0, .int .u32 0] 113 := by
        have := (Blk.new S #[.bool false, .int .i64 0, .int .u32 0] 113).alloc (.cells #[.int .u32 (last + 1), .int .u64 owner, .int .i64 pin, .slice VA vec.length vc, (.slice AA al.length ac), (.slice YA an.length yc), (.slice NA no.length nc), .bool false, .int .i64 0, .int .u32 0, .slice (some ⟨w1.heap.size, 0, none⟩) 1 1, .int .u32 now] 80)
        rw [show S.heap.size = w1.heap.size by rw [hsz]] at this
        exact this
      have hC1 : Blk ((S.alloc (.cells #[.bool false, .int .i64 0, .int .u32 0] 113)).alloc (.cells #[.int .u32 (last + 1), .int .u64 owner, .int .i64 pin, .slice VA vec.length vc, (.slice AA al.length ac), (.slice YA an.length yc), (.slice NA no.length nc), .bool false, .int .i64 0, .int .u32 0, .slice (some ⟨w1.heap.size, 0, none⟩) 1 1, .int .u32 now] 80)) (w1.heap.size + 1) #[.int .u32 (last + 1), .int .u64 owner, .int .i64 pin, .slice VA vec.length vc, (.slice AA al.length ac), (.slice YA an.length yc), (.slice NA no.length nc), .bool false, .int .i64 0, .int .u32 0, .slice (some ⟨w1.heap.size, 0, none⟩) 1 1, .int .u32 now] 80 := by
        have := Blk.new (S.alloc (.cells #[.bool false, .int .i64 0, .int .u32 0] 113)) #[.int .u32 (last + 1), .int .u64 owner, .int .i64 pin, .slice VA vec.length vc, (.slice AA al.length ac), (.slice YA an.length yc), (.slice NA no.length nc), .bool false, .int .i64 0, .int .u32 0, .slice (some ⟨w1.heap.size, 0, none⟩) 1 1, .int .u32 now] 80
        rw [show (S.alloc (.cells #[.bool false, .int .i64 0, .int .u32 0] 113)).heap.size = w1.heap.size + 1 by simp [hsz]] at this
        exact this
      have hnews := World.news_of_block (fr := (0, 0)) hC1
      have hendO : EndsO ((S.alloc (.cells #[.bool false, .int .i64 0, .int .u32 0] 113)).alloc (.cells #[.int .u32 (last + 1), .int .u64 owner, .int .i64 pin, .slice VA vec.length vc, (.slice AA al.length ac), (.slice YA an.length yc), (.slice NA no.length nc), .bool false, .int .i64 0, .int .u32 0, .slice (some ⟨w1.heap.size, 0, none⟩) 1 1, .int .u32 now] 80)) B (.slice (some ⟨w1.heap.size, 0, none⟩) 1 1) [(false, 0, 0)] := by
        refine ⟨⟨rfl, .inr ⟨w1.heap.size, 1, _, rfl, by omega, hE1, by simp, by simp [maxLen], rfl, rfl⟩⟩, ?_⟩
        intro m hm
        simp at hm
        subst hm
        exact ⟨rfl, rfl⟩
      have hrow : RowC w0 ((S.alloc (.cells #[.bool false, .int .i64 0, .int .u32 0] 113)).alloc (.cells #[.int .u32 (last + 1), .int .u64 owner, .int .i64 pin, .slice VA vec.length vc, (.slice AA al.length ac), (.slice YA an.length yc), (.slice NA no.length nc), .bool false, .int .i64 0, .int .u32 0, .slice (some ⟨w1.heap.size, 0, none⟩) 1 1, .int .u32 now] 80)) B (#[.int .u32 (last + 1), .int .u64 owner, .int .i64 pin, .slice VA vec.length vc, (.slice AA al.length ac), (.slice YA an.length yc), (.slice NA no.length nc), .bool false, .int .i64 0, .int .u32 0, .slice (some ⟨w1.heap.size, 0, none⟩) 1 1, .int .u32 now] : Array Value).toList (newR (last + 1) owner pin vec al an no now) :=
        ⟨_, _, _, _, _, rfl, hargH.out, hendO⟩
      have hrowH := Lib.hid hrow
      have hnewsH := Lib.hid hnews
      have h1H := Lib.hid hrow.one
      have e1 := kA.cell0 g1
      have e2 := kA.cell0 g2
      have hbl := (p1.kp kA id)
      have ef := hbl.frozen 1
      have hcne : ∀ gg, (Value.slice A rs'.length cap).ownBlock = some gg → gg ≠ c := own_ne_blk (own_kp hown kA (fun _ _ h => h)) hbl (by decide)
      have eH := Lib.hid (And.intro e1 (And.intro ef (And.intro hcne e2)))
      have hown2 := Lib.hid (own_kp hown kA (fun _ _ h => h))
      have hP := Lib.hid (And.intro hBc (And.intro p1 (And.intro p2 p3)))
      have kAH := Lib.hid kA
      have hbase : B ≤ ((S.alloc (.cells #[.bool false, .int .i64 0, .int .u32 0] 113)).alloc (.cells #[.int .u32 (last + 1), .int .u64 owner, .int .i64 pin, .slice VA vec.length vc, (.slice AA al.length ac), (.slice YA an.length yc), (.slice NA no.length nc), .bool false, .int .i64 0, .int .u32 0, .slice (some ⟨w1.heap.size, 0, none⟩) 1 1, .int .u32 now] 80)).drew.drew.heap.size := by simp [hsz]; omega
      clear p2 p3 hown hE1 hC1 hnews hendO hrow e1 e2 ef hcne hbl kA
      go_region_law
        ((refine step_append_lies _ (by rfl) _ _ _ (by rfl) B 80 i0 zC 12 176 Try.underlying68 hI.out.1 hI.out.2.1 hI.out.2.2.1 hI.out.2.2.2 rfl (by omega) (.slice A rs'.length cap) rs'.length ms.flatten (by rfl) hown2.out ⟨w1.heap.size + 1, 0, none⟩ 1 1 (#[.int .u32 (last + 1), .int .u64 owner, .int .i64 pin, .slice VA vec.length vc, (.slice AA al.length ac), (.slice YA an.length yc), (.slice NA no.length nc), .bool false, .int .i64 0, .int .u32 0, .slice (some ⟨w1.heap.size, 0, none⟩) 1 1, .int .u32 now] : Array Value).toList (by rfl) (by rfl) hnewsH.out (List.all_eq_true.1 h1H.out.2) (by omega) (by simp only [maxLen]; omega) (by omega) hbase (w1.heap.size + 2) (by simp [hsz]) ?_; intro gg capg w4 hown4 hgrow hat hlt4; have d1 := (hgrow.cell_far ⟨c, 1, none⟩ (by simp [hsz]; omega) (fun e => eH.out.2.2.1 c e.symm rfl)).trans eH.out.1; have df := (hgrow.frozen_far ⟨c, 1, none⟩ (by simp [hsz]; omega) (fun e => eH.out.2.2.1 c e.symm rfl)).trans eH.out.2.1; have d2 := (hgrow.cell_far ⟨c, 2, none⟩ (by simp [hsz]; omega) (fun e => eH.out.2.2.1 c e.symm rfl)).trans eH.out.2.2.2))
      all_goals
        have hfin : RTab w0 (w4.setCell ⟨c, 1, none⟩ (.slice (some ⟨gg, 0, none⟩) (rs'.length + 1) capg)) B c idle (last + 1) (rs' ++ [newR (last + 1) owner pin vec al an no now]) ∧ Kt B TR False S (w4.setCell ⟨c, 1, none⟩ (.slice (some ⟨gg, 0, none⟩) (rs'.length + 1) capg)) := by
          first
          | exact RTab.push hP.out.1 hP.out.2.1 hP.out.2.2.1 hP.out.2.2.2 (kAH.out.drew) hrowH.out (by rw [hn.out]; exact hown4) hgrow
          | exact RTab.push hP.out.1 hP.out.2.1 hP.out.2.2.1 hP.out.2.2.2 (kAH.out) hrowH.out (by rw [hn.out]; exact hown4) hgrow
          | exact RTab.push hP.out.1 hP.out.2.1 hP.out.2.2.1 hP.out.2.2.2 (kAH.out.drew.drew) hrowH.out (by rw [hn.out]; exact hown4) hgrow
          | exact RTab.push hP.out.1 hP.out.2.1 hP.out.2.2.1 hP.out.2.2.2 (kAH.out.drew.drew.drew) hrowH.out (by rw [hn.out]; exact hown4) hgrow
        have hfinH := Lib.hid hfin
        clear hown4 hgrow hfin
        go_wp2_with fail
        go_ret2
        exact ⟨at', hal, hEH.out, rfl, by rw [hrs'.out]; exact hfinH.out.1, (kwH.out.trans hL.out.2).trans hfinH.out.2⟩
end Go.Proofs.Ytcamhpjgpjihhaa

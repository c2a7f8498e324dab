/- Cursor: own: an ask with lists of its own. -/
import Derived.Test.YtcamhpjgpjihhaaCur1
import Derived.Deep.AppendLies
namespace Go.Proofs.Ytcamhpjgpjihhaa
set_option linter.unusedVariables false
set_option linter.unusedSimpArgs false
open Go.RowKit

def OwnPost (c : AskC) (w : World) (e : Ending) (w' : World) : Prop := ∃ cs, e = .returned (.agg (List.toArray cs)) ∧ AskO w' w.heap.size cs c ∧ Kp (fun _ => False) w w'

theorem Kp.undrew {S : Nat → Prop} {w w' : World} (h : Kp S w.drew w') : Kp S w w' := ⟨h.os, h.tape, h.output, h.size, h.block⟩

theorem own_fin {w5 : World} {g : Nat} {t : TypeId} {z0 z1 z2 z3 z4 z5 z6 z7 : Value} (x0 x1 a3 a4 a5 x5 x6 x7 : Value) (h : Blk w5 (g + 1) #[z0, z1, z2, z3, z4, z5, z6, z7] t) :
    rowOf (((((((((((w5.setCell ⟨g, 2, none⟩ a3).setCell ⟨g, 3, none⟩ a4).setCell ⟨g, 4, none⟩ a5).setCell ⟨(g + 1), 0, none⟩ x0).setCell ⟨(g + 1), 1, none⟩ x1).setCell ⟨(g + 1), 2, none⟩ a3).setCell ⟨(g + 1), 3, none⟩ a4).setCell ⟨(g + 1), 4, none⟩ a5).setCell ⟨(g + 1), 5, none⟩ x5).setCell ⟨(g + 1), 6, none⟩ x6).setCell ⟨(g + 1), 7, none⟩ x7) (g + 1) = #[x0, x1, a3, a4, a5, x5, x6, x7] ∧ Kp (fun i => i = g ∨ i = g + 1) w5 (((((((((((w5.setCell ⟨g, 2, none⟩ a3).setCell ⟨g, 3, none⟩ a4).setCell ⟨g, 4, none⟩ a5).setCell ⟨(g + 1), 0, none⟩ x0).setCell ⟨(g + 1), 1, none⟩ x1).setCell ⟨(g + 1), 2, none⟩ a3).setCell ⟨(g + 1), 3, none⟩ a4).setCell ⟨(g + 1), 4, none⟩ a5).setCell ⟨(g + 1), 5, none⟩ x5).setCell ⟨(g + 1), 6, none⟩ x6).setCell ⟨(g + 1), 7, none⟩ x7) := by
  have h1 := ((h.set_other (a := ⟨g, 2, none⟩) (by simp) a3).set_other (a := ⟨g, 3, none⟩) (by simp) a4).set_other (a := ⟨g, 4, none⟩) (by simp) a5
  have h2 : Blk _ (g + 1) #[x0, z1, z2, z3, z4, z5, z6, z7] t := h1.set 0 x0
  have h3 : Blk _ (g + 1) #[x0, x1, z2, z3, z4, z5, z6, z7] t := h2.set 1 x1
  have h4 : Blk _ (g + 1) #[x0, x1, a3, z3, z4, z5, z6, z7] t := h3.set 2 a3
  have h5 : Blk _ (g + 1) #[x0, x1, a3, a4, z4, z5, z6, z7] t := h4.set 3 a4
  have h6 : Blk _ (g + 1) #[x0, x1, a3, a4, a5, z5, z6, z7] t := h5.set 4 a5
  have h7 : Blk _ (g + 1) #[x0, x1, a3, a4, a5, x5, z6, z7] t := h6.set 5 x5
  have h8 : Blk _ (g + 1) #[x0, x1, a3, a4, a5, x5, x6, z7] t := h7.set 6 x6
  have h9 : Blk _ (g + 1) #[x0, x1, a3, a4, a5, x5, x6, x7] t := h8.set 7 x7
  refine ⟨h9.row, ?_⟩
  exact ((((((((((((Kp.refl _ w5).setCell (p := ⟨g, 2, none⟩) (fun _ => .inl rfl) _).setCell (p := ⟨g, 3, none⟩) (fun _ => .inl rfl) _).setCell (p := ⟨g, 4, none⟩) (fun _ => .inl rfl) _).setCell (p := ⟨g + 1, 0, none⟩) (fun _ => .inr rfl) _).setCell (p := ⟨g + 1, 1, none⟩) (fun _ => .inr rfl) _).setCell (p := ⟨g + 1, 2, none⟩) (fun _ => .inr rfl) _).setCell (p := ⟨g + 1, 3, none⟩) (fun _ => .inr rfl) _).setCell (p := ⟨g + 1, 4, none⟩) (fun _ => .inr rfl) _).setCell (p := ⟨g + 1, 5, none⟩) (fun _ => .inr rfl) _).setCell (p := ⟨g + 1, 6, none⟩) (fun _ => .inr rfl) _).setCell (p := ⟨g + 1, 7, none⟩) (fun _ => .inr rfl) _)

set_option maxHeartbeats 4000000 in
theorem prog_own (cs : List Value) (c : AskC) (w : World) (h : AskR w cs c) (hs : c.small) :
    Calls Try.prog 53 #[.agg cs.toArray] w (OwnPost c w) := by
  obtain ⟨v, a, y, n, rfl, hv, ha, hy, hn⟩ := h
  obtain ⟨s1, s2, s3, s4⟩ := hs
  obtain ⟨vA, vc, rfl, -, -, -⟩ := hv.one
  obtain ⟨aA, ac, rfl, -, -, -⟩ := ha.one
  obtain ⟨yA, yc, rfl, -, -, -⟩ := hy.one
  obtain ⟨nA, nc, rfl, -, -, -⟩ := hn.one
  obtain ⟨pin, vec, al, an, no, has, ld, li⟩ := c
  simp only at *
  have hB := (Blk.new w #[.int .i64 pin, .slice vA vec.length vc, .slice aA al.length ac, .slice yA an.length yc, .slice nA no.length nc, .bool has, .int .i64 ld, .int .u32 li] 49).alloc (.cells #[.int .i64 0, .slice none 0 0, .slice none 0 0, .slice none 0 0, .slice none 0 0, .bool false, .int .i64 0, .int .u32 0] 49)
  have hR := Blk.new (w.alloc (.cells #[.int .i64 pin, .slice vA vec.length vc, .slice aA al.length ac, .slice yA an.length yc, .slice nA no.length nc, .bool has, .int .i64 ld, .int .u32 li] 49)) #[.int .i64 0, .slice none 0 0, .slice none 0 0, .slice none 0 0, .slice none 0 0, .bool false, .int .i64 0, .int .u32 0] 49
  have kk := ((Kp.refl (fun _ => False) w).alloc (.cells #[.int .i64 pin, .slice vA vec.length vc, .slice aA al.length ac, .slice yA an.length yc, .slice nA no.length nc, .bool has, .int .i64 ld, .int .u32 li] 49)).alloc (.cells #[.int .i64 0, .slice none 0 0, .slice none 0 0, .slice none 0 0, .slice none 0 0, .bool false, .int .i64 0, .int .u32 0] 49)
  rw [show (w.alloc (.cells #[.int .i64 pin, .slice vA vec.length vc, .slice aA al.length ac, .slice yA an.length yc, .slice nA no.length nc, .bool has, .int .i64 ld, .int .u32 li] 49)).heap.size = w.heap.size + 1 by simp] at hR
  go_enter Try.func53, Try.ntmps53
  go_wp2_with fail
  generalize hgg : w.heap.size = g at *
  have hg' := Lib.hid hgg
  clear hgg
  generalize (w.alloc (.cells #[.int .i64 pin, .slice vA vec.length vc, .slice aA al.length ac, .slice yA an.length yc, .slice nA no.length nc, .bool has, .int .i64 ld, .int .u32 li] 49)).alloc (.cells #[.int .i64 0, .slice none 0 0, .slice none 0 0, .slice none 0 0, .slice none 0 0, .bool false, .int .i64 0, .int .u32 0] 49) = W at *
  have C1 := Lib.hid (clone_ints _ _ _ (hv.keeps (Keeps.kp kk)) s1)
  have hvH := Lib.hid hv
  have haH := Lib.hid ha
  have hyH := Lib.hid hy
  have hnH := Lib.hid hn
  have sH := Lib.hid (And.intro s2 (And.intro s3 s4))
  clear hv ha hy hn s1 s2 s3 s4
  refine C1.out.mono ?_
  rintro e w1 ⟨v1, rfl, o1, k1⟩
  obtain ⟨A1, c1, rfl⟩ := o1.form
  have hWg : g ≤ W.heap.size := by have := kk.size; rw [hg'.out] at this; exact this
  have o1 := OwnR.base o1 hWg
  have n1 : ∀ i, (Value.slice A1 vec.length c1).ownBlock = some i → ¬ i = g := own_ne_blk o1 (hB.kp k1 id) (by decide)
  have kk := kk.trans k1
  have d1 := ((hB.kp k1 id).cell 1).trans rfl
  have f1 := (hB.kp k1 id).frozen 1
  have hB := (hB.kp k1 id).set 1 (.slice A1 vec.length c1)
  have hR := (hR.kp k1 id).set_other (a := ⟨g, 1, none⟩) (by simp) (.slice A1 vec.length c1)
  have o1 := own_kp o1 ((Kp.refl (fun i => i = g) w1).set1 1 (.slice A1 vec.length c1)) n1
  have kk := kk.setCell (p := ⟨g, 1, none⟩) (fun h => absurd h (by rw [hg'.out]; simp)) (.slice A1 vec.length c1)
  clear C1 k1 n1
  go_wp2_with fail
  clear d1 f1
  generalize w1.setCell ⟨g, 1, none⟩ (.slice A1 vec.length c1) = w2 at *
  simp only [Array.setIfInBounds] at hB
  have c0 := (hB.cell 0).trans rfl
  have c2 := (hB.cell 2).trans rfl
  have c3 := (hB.cell 3).trans rfl
  have c4 := (hB.cell 4).trans rfl
  have K0 := Keeps.kp kk
  have HA := Lib.hid (fun (W' : World) (k : Kp (fun _ => False) w2 W') => clone_strs (.slice aA al.length ac) al W' (haH.out.keeps (K0.trans (Keeps.kp k))) sH.out.1)
  have HY := Lib.hid (fun (W' : World) (k : Kp (fun _ => False) w2 W') => clone_strs (.slice yA an.length yc) an W' (hyH.out.keeps (K0.trans (Keeps.kp k))) sH.out.2.1)
  have HN := Lib.hid (fun (W' : World) (k : Kp (fun _ => False) w2 W') => clone_strs (.slice nA no.length nc) no W' (hnH.out.keeps (K0.trans (Keeps.kp k))) sH.out.2.2)
  have q := Kp.refl (fun _ => False) w2
  have hw2 : g ≤ w2.heap.size := by have := kk.size; rw [hg'.out] at this; exact this
  clear K0 hvH haH hyH hnH sH
  go_region_law
    (first
    | (go_simp; go_at_call 49; refine Calls.mono (HA.out _ ?k1) ?_; (case k1 => first | exact q | exact q.drew | exact q.drew.drew); rintro e w3 ⟨v3, rfl, o3, k3⟩; obtain ⟨A3, c3', rfl⟩ := o3.form; clear HA; have z3 : Kp (fun _ => False) w2 w3 := (by first | exact k3 | exact k3.undrew | exact k3.undrew.undrew); have o3 := OwnR.base o3 hw2; have q3 := Kp.trans (by first | with_reducible exact q | with_reducible exact q.drew | with_reducible exact q.drew.drew) k3; have q := q3; have c3 := k3.cell0 c3; have c4 := k3.cell0 c4)
    | (go_simp; go_at_call 49; refine Calls.mono (HY.out _ ?k1) ?_; (case k1 => first | exact q | exact q.drew | exact q.drew.drew); rintro e w4 ⟨v4, rfl, o4, k4⟩; obtain ⟨A4, c4', rfl⟩ := o4.form; clear HY; have z4 : Kp (fun _ => False) w3 w4 := (by first | exact k4 | exact k4.undrew | exact k4.undrew.undrew); have o4 := OwnR.base o4 (Nat.le_trans hw2 q.size); have o3 := OwnR.kp o3 z4; have q4 := Kp.trans (by first | with_reducible exact q | with_reducible exact q.drew | with_reducible exact q.drew.drew) k4; have q := q4; have c4 := k4.cell0 c4)
    | (go_simp; go_at_call 49; refine Calls.mono (HN.out _ ?k1) ?_; (case k1 => first | exact q | exact q.drew | exact q.drew.drew); rintro e w5 ⟨v5, rfl, o5, k5⟩; obtain ⟨A5, c5, rfl⟩ := o5.form; clear HN; have z5 : Kp (fun _ => False) w4 w5 := (by first | exact k5 | exact k5.undrew | exact k5.undrew.undrew); have o5 := OwnR.base o5 (Nat.le_trans hw2 q.size); have o3 := OwnR.kp o3 z5; have o4 := OwnR.kp o4 z5; have q := q.trans z5; have hB5 := hB.kp q id; have hR5 := hR.kp q id; have e0 := (hB5.cell 0).trans rfl; have d0 := (hR5.cell 0).trans rfl; have f0 := hB5.frozen 0; have h0 := hR5.frozen 0; have e1 := (hB5.cell 1).trans rfl; have d1 := (hR5.cell 1).trans rfl; have f1 := hB5.frozen 1; have h1 := hR5.frozen 1; have e2 := (hB5.cell 2).trans rfl; have d2 := (hR5.cell 2).trans rfl; have f2 := hB5.frozen 2; have h2 := hR5.frozen 2; have e3 := (hB5.cell 3).trans rfl; have d3 := (hR5.cell 3).trans rfl; have f3 := hB5.frozen 3; have h3 := hR5.frozen 3; have e4 := (hB5.cell 4).trans rfl; have d4 := (hR5.cell 4).trans rfl; have f4 := hB5.frozen 4; have h4 := hR5.frozen 4; have e5 := (hB5.cell 5).trans rfl; have d5 := (hR5.cell 5).trans rfl; have f5 := hB5.frozen 5; have h5 := hR5.frozen 5; have e6 := (hB5.cell 6).trans rfl; have d6 := (hR5.cell 6).trans rfl; have f6 := hB5.frozen 6; have h6 := hR5.frozen 6; have e7 := (hB5.cell 7).trans rfl; have d7 := (hR5.cell 7).trans rfl; have f7 := hB5.frozen 7; have h7 := hR5.frozen 7))
  all_goals
    have o1 := OwnR.kp o1 q
    have hgg := hg'.out
    have fin : ∀ W', Kp (fun i => i = g ∨ i = g + 1) w5 W' → AskO W' g [.int .i64 pin, .slice A1 vec.length c1, .slice A3 al.length c3', .slice A4 an.length c4', .slice A5 no.length c5, .bool has, .int .i64 ld, .int .u32 li] ⟨pin, vec, al, an, no, has, ld, li⟩ ∧ Kp (fun _ => False) w W' := fun W' k =>
      ⟨⟨_, _, _, _, rfl, own_kp o1 k (fun i hi h => h.elim (own_ne_blk o1 hB5 (by decide) i hi) (own_ne_blk o1 hR5 (by decide) i hi)), own_kp o3 k (fun i hi h => h.elim (own_ne_blk o3 hB5 (by decide) i hi) (own_ne_blk o3 hR5 (by decide) i hi)),
        own_kp o4 k (fun i hi h => h.elim (own_ne_blk o4 hB5 (by decide) i hi) (own_ne_blk o4 hR5 (by decide) i hi)), own_kp o5 k (fun i hi h => h.elim (own_ne_blk o5 hB5 (by decide) i hi) (own_ne_blk o5 hR5 (by decide) i hi))⟩,
       (kk.trans q).then_ k (fun i hi hlt => by omega)⟩
    have fin := Lib.hid fin
    clear hgg o1 o3 o4 o5 hB5 hB hR q q3 q4 z3 z4 z5 k3 k4 k5 kk
    go_wp2_with fail
    have R := own_fin (.int .i64 pin) (.slice A1 vec.length c1) (.slice A3 al.length c3') (.slice A4 an.length c4') (.slice A5 no.length c5) (.bool has) (.int .i64 ld) (.int .u32 li) hR5
    obtain ⟨r1, r2⟩ := fin.out _ R.2
    have R1 := R.1
    have r1 := Lib.hid r1
    clear R fin
    generalize hV : (w5.setCell ⟨g, 2, none⟩ (.slice A3 al.length c3')) = V at *
    clear hV
    refine bodyPost_ret (results_struct1 (P := Try.prog) (n := 8) rfl Try.underlying49 rfl (by kernel_rfl) (by decide) rfl R1 rfl) rfl ?_
    exact ⟨_, rfl, by rw [hg'.out]; exact r1.out, r2⟩
end Go.Proofs.Ytcamhpjgpjihhaa

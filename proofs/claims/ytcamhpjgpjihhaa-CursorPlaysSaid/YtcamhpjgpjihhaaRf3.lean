/- The reference's table of cursors: Take. -/
import Derived.Test.YtcamhpjgpjihhaaRf2
namespace Go.Proofs.Ytcamhpjgpjihhaa
set_option linter.unusedVariables false
set_option linter.unusedSimpArgs false
open Go.RowKit
attribute [local go_sem ↓] loadC
attribute [local go_sem] isPtrA_ptr adrOf_ptr

/-- The place of the cursor of a number. -/
structure RAt (rs : List RC) (n : Int) (i : Nat) (r : RC) : Prop where
  lt : i < rs.length
  at_ : rs[i] = r
  num : r.n = n
  fst : ∀ j (_ : j < i) (hj : j < rs.length), rs[j].n ≠ n

theorem r14_at {w0 w : World} {B c : Nat} {idle last : Int} {rs : List RC} (h : RTab w0 w B c idle last rs) {n : Int} {i : Nat} {r : RC} (ha : RAt rs n i r) (hl : rs.length ≤ 1000) :
    Calls Try.prog 38 #[.pointer (some ⟨c, 0, none⟩), .int .u32 n] w fun e w' => e = .returned (.int .i64 i) ∧ w = w' :=
  r14_at_yes h ha.lt (by rw [ha.at_]; exact ha.num) ha.fst hl

theorem RTab.look' {w0 w : World} {B c : Nat} {idle last : Int} {rs : List RC} (h : RTab w0 w B c idle last rs) {n : Int} {i : Nat} {r : RC} (ha : RAt rs n i r) :
    ∃ g cap v a y n ev, w.cell? ⟨c, 1, none⟩ = some (.slice (some ⟨g, 0, none⟩) rs.length cap) ∧ rdAt w ⟨g, i * 12, none⟩ 12 = some (rowC r v a y n ev).toArray ∧
      (∀ j, j < 12 → w.cell? ⟨g, i * 12 + j, none⟩ = (rowC r v a y n ev)[j]?) ∧ AskR w0 [.int .i64 r.ask.pin, v, a, y, n, .bool r.ask.has, .int .i64 r.ask.ld, .int .u32 r.ask.li] r.ask ∧ EndsO w B ev r.ends ∧ g < w.heap.size := by
  have := h.look ha.lt
  rw [ha.at_] at this
  exact this

theorem zask_at {w : World} {g : Nat} (h : Blk w g zAsk 49) :
    w.cell? ⟨g, 0, none⟩ = some (.int .i64 0) ∧ w.cell? ⟨g, 1, none⟩ = some (.slice none 0 0) ∧ w.cell? ⟨g, 2, none⟩ = some (.slice none 0 0) ∧ w.cell? ⟨g, 3, none⟩ = some (.slice none 0 0) ∧ w.cell? ⟨g, 4, none⟩ = some (.slice none 0 0) ∧ w.cell? ⟨g, 5, none⟩ = some (.bool false) ∧ w.cell? ⟨g, 6, none⟩ = some (.int .i64 0) ∧ w.cell? ⟨g, 7, none⟩ = some (.int .u32 0) ∧ (∀ j, w.frozen? ⟨g, j, none⟩ = false) :=
  ⟨(h.cell 0).trans rfl, (h.cell 1).trans rfl, (h.cell 2).trans rfl, (h.cell 3).trans rfl, (h.cell 4).trans rfl, (h.cell 5).trans rfl, (h.cell 6).trans rfl, (h.cell 7).trans rfl, fun j => h.frozen j⟩

set_option maxRecDepth 8000 in
set_option maxHeartbeats 2000000 in
theorem r14_take_none {w0 w : World} {B c : Nat} {idle last : Int} {rs : List RC} (owner n page now : Int) (h : RTab w0 w B c idle last rs) (hf : ∀ r ∈ rs, r.n ≠ n) (hl : rs.length ≤ 1000) :
    Calls Try.prog 39 #[.pointer (some ⟨c, 0, none⟩), .int .u64 owner, .int .u32 n, .int .u32 page, .int .u32 now] w fun e w' => e = .returned (.tuple #[.agg zAsk, .int .i64 140]) ∧ Kp (fun _ => False) w w' := by
  have hA := Lib.hid (r14_at_no (h.kp ((Kp.refl _ w).alloc (.cells zAsk 49))) hf hl)
  unfold zAsk at hA
  clear h hf
  go_enter Try.func39, Try.ntmps39
  go_wp2_with fail
  refine hA.out.mono ?_
  rintro e w1 ⟨rfl, rfl⟩
  clear hA
  go_wp2_with fail
  exact bodyPost_ret (v := .tuple #[.agg zAsk, .int .i64 140]) (results_struct_tmp (P := Try.prog) (n := 8) rfl Try.underlying49 rfl (by kernel_rfl) (by decide) rfl rfl (Blk.new w _ _).row rfl) rfl ⟨rfl, (Kp.refl _ w).alloc _⟩

set_option maxRecDepth 8000 in
set_option maxHeartbeats 2000000 in
theorem r14_take_other {w0 w : World} {B c : Nat} {idle last : Int} {rs : List RC} {n : Int} {i : Nat} {r : RC} (owner page now : Int) (h : RTab w0 w B c idle last rs) (ha : RAt rs n i r) (ho : r.owner ≠ owner) (hl : rs.length ≤ 1000) :
    Calls Try.prog 39 #[.pointer (some ⟨c, 0, none⟩), .int .u64 owner, .int .u32 n, .int .u32 page, .int .u32 now] w fun e w' => e = .returned (.tuple #[.agg zAsk, .int .i64 140]) ∧ Kp (fun _ => False) w w' := by
  have h1 := h.kp ((Kp.refl _ w).alloc (.cells zAsk 49))
  have hA := Lib.hid (r14_at h1 ha hl)
  obtain ⟨g, cap, v, a, y, z, ev, d1, -, d2, -, -, -⟩ := h1.look' ha
  have o1 := (d2 1 (by omega)).trans (show _ = some (Value.int .u64 r.owner) from rfl)
  have e1 : (r.owner != owner) = true := by simpa using ho
  have hlt := ha.lt
  unfold zAsk at hA d1 o1
  clear h h1 ha d2
  go_enter Try.func39, Try.ntmps39
  go_wp2_with fail
  refine hA.out.mono ?_
  rintro e w1 ⟨rfl, rfl⟩
  clear hA
  go_wp2_with fail
  exact bodyPost_ret (v := .tuple #[.agg zAsk, .int .i64 140]) (results_struct_tmp (P := Try.prog) (n := 8) rfl Try.underlying49 rfl (by kernel_rfl) (by decide) rfl rfl (Blk.new w _ _).row rfl) rfl ⟨rfl, (Kp.refl _ w).alloc _⟩

set_option maxRecDepth 8000 in
set_option maxHeartbeats 2000000 in
theorem r14_take_wrong {w0 w : World} {B c : Nat} {idle last : Int} {rs : List RC} {n : Int} {i : Nat} {r : RC} (owner page now : Int) (h : RTab w0 w B c idle last rs) (ha : RAt rs n i r) (ho : r.owner = owner) (hr : rightR r page = false) (he : 1 ≤ r.ends.length ∧ r.ends.length ≤ 1000) (hp : 0 ≤ page ∧ page < 4294967296) (hl : rs.length ≤ 1000) :
    Calls Try.prog 39 #[.pointer (some ⟨c, 0, none⟩), .int .u64 owner, .int .u32 n, .int .u32 page, .int .u32 now] w fun e w' => e = .returned (.tuple #[.agg zAsk, .int .i64 1]) ∧ Kp (fun _ => False) w w' := by
  have h1 := h.kp ((Kp.refl _ w).alloc (.cells zAsk 49))
  have hA := Lib.hid (r14_at h1 ha hl)
  obtain ⟨g, cap, v, a, y, z, ev, d1, hrd0, d2, -, hev, -⟩ := h1.look' ha
  have o1 := (d2 1 (by omega)).trans (show _ = some (Value.int .u64 r.owner) from rfl)
  subst ho
  have hR := r14_right r v a y z ev page (w.alloc (.cells zAsk 49)) hev he.1 he.2 hp
  rw [hr] at hR
  have hR := Lib.hid hR
  have hlt := ha.lt
  have hrd : rdAt (w.alloc (.cells zAsk 49)) ⟨g, i * 12, none⟩ 12 = some #[.int .u32 r.n, .int .u64 r.owner, .int .i64 r.ask.pin, v, a, y, z, .bool r.ask.has, .int .i64 r.ask.ld, .int .u32 r.ask.li, ev, .int .u32 r.used] := hrd0
  unfold zAsk at hA d1 o1 hrd hR
  clear h h1 ha d2 hev hrd0 he hp hr
  go_enter Try.func39, Try.ntmps39
  go_wp2_with fail
  refine hA.out.mono ?_
  rintro e w1 ⟨rfl, rfl⟩
  clear hA
  go_wp2_with fail
  refine hR.out.mono ?_
  rintro e w1 ⟨rfl, k1⟩
  clear hR
  have hB := (Blk.new w zAsk 49).kp k1 id
  have k2 := ((Kp.refl (fun _ => False) w).alloc (.cells zAsk 49)).trans k1
  obtain ⟨z0, z1, z2, z3, z4, z5, z6, z7, zf⟩ := zask_at hB
  go_wp2_with fail
  obtain ⟨r1, r2⟩ := set8 (.int .i64 0) (.slice none 0 0) (.slice none 0 0) (.slice none 0 0) (.slice none 0 0) (.bool false) (.int .i64 0) (.int .u32 0) hB
  exact bodyPost_ret (v := .tuple #[.agg zAsk, .int .i64 1]) (results_struct_tmp (P := Try.prog) (n := 8) rfl Try.underlying49 rfl (by kernel_rfl) (by decide) rfl rfl r1.row rfl) rfl ⟨rfl, k2.then_ r2 (fun i h1 h2 => by omega)⟩

/-- t.L[i].Used = now. -/
theorem RTab.used {w0 w : World} {B c : Nat} {idle last : Int} {rs : List RC} {n : Int} {i : Nat} {r : RC} (h : RTab w0 w B c idle last rs) (ha : RAt rs n i r) (now : Int) {g cap : Nat} (hc1 : w.cell? ⟨c, 1, none⟩ = some (.slice (some ⟨g, 0, none⟩) rs.length cap)) :
    RTab w0 (w.setCell ⟨g, i * 12 + 11, none⟩ (.int .u32 now)) B c idle last (rs.set i { r with used := now }) ∧ Kt B TR False w (w.setCell ⟨g, i * 12 + 11, none⟩ (.int .u32 now)) := by
  obtain ⟨hc, v, ms, p1, p2, p3⟩ := h
  obtain ⟨hk', v1, a, y, z, ev, e, h1, h2⟩ := p3.at ha.lt
  have hv := (p1.cell 1).symm.trans hc1
  simp only [List.getElem?_toArray, List.getElem?_cons_succ, List.getElem?_cons_zero, Option.some.injEq] at hv
  subst hv
  rw [← p3.1] at p2
  obtain ⟨q1, q2⟩ := p2.set i hk' 11 (by omega) (.int .u32 now) rfl
  have kI := (Kt.refl (B := B) (T := fun t => t = 80) (M := False) w).grown p2.1 (Nat.le_refl _) rfl q2
  rw [ha.at_] at e h1 h2
  refine ⟨⟨hc, _, _, (by rw [p3.1]; exact p1.kt kI (by decide)), q1, ((p3.mono fun _ _ q => q.kt kI (by decide)).set ?_ i)⟩, kI.mono (Nat.le_refl _) (fun _ h => .inr h) id⟩
  refine ⟨v1, a, y, z, ev, ?_, h1, h2.kt kI (by decide)⟩
  rw [e]
  rfl

theorem RTab.cells {w0 w : World} {B c : Nat} {idle last : Int} {rs : List RC} (h : RTab w0 w B c idle last rs) {g n cap : Nat} (hc1 : w.cell? ⟨c, 1, none⟩ = some (.slice (some ⟨g, 0, none⟩) n cap)) : B ≤ g ∧ ∃ cur, Blk w g cur 80 := by
  obtain ⟨hc, v, ms, p1, p2, p3⟩ := h
  have hv := (p1.cell 1).symm.trans hc1
  simp only [List.getElem?_toArray, List.getElem?_cons_succ, List.getElem?_cons_zero, Option.some.injEq] at hv
  subst hv
  exact p2.blk

def RTakePost (w0 w : World) (B c : Nat) (idle last : Int) (rs : List RC) (i : Nat) (r : RC) (p : Nat) (now : Int) (e : Ending) (w' : World) : Prop :=
  ∃ cs, e = .returned (.tuple #[.agg (List.toArray cs), .int .i64 0]) ∧ AskR w0 cs { r.ask with has := (r.ends.getD p (false, 0, 0)).1, ld := (r.ends.getD p (false, 0, 0)).2.1, li := (r.ends.getD p (false, 0, 0)).2.2 } ∧ RTab w0 w' B c idle last (rs.set i { r with used := now }) ∧ Kt B TR False w w'

set_option maxRecDepth 8000 in
set_option maxHeartbeats 4000000 in
theorem r14_take_ok {w0 w : World} {B c : Nat} {idle last : Int} {rs : List RC} {n : Int} {i : Nat} {r : RC} (owner : Int) (p : Nat) (now : Int) (h : RTab w0 w B c idle last rs) (ha : RAt rs n i r) (ho : r.owner = owner) (hr : rightR r ((p : Int) + 1) = true) (he : 1 ≤ r.ends.length ∧ r.ends.length ≤ 1000) (hl : rs.length ≤ 1000) :
    Calls Try.prog 39 #[.pointer (some ⟨c, 0, none⟩), .int .u64 owner, .int .u32 n, .int .u32 ((p : Int) + 1), .int .u32 now] w (RTakePost w0 w B c idle last rs i r p now) := by
  have hpl : p < r.ends.length := by
    unfold rightR at hr
    simp at hr
    omega
  have hp1000 : p < 1000 := by omega
  have hp : 0 ≤ ((p : Int) + 1) ∧ ((p : Int) + 1) < 4294967296 := by omega
  have h1 := h.kp ((Kp.refl _ w).alloc (.cells zAsk 49))
  have hA := Lib.hid (r14_at h1 ha hl)
  obtain ⟨g, cap, v, a, y, z, ev, d1, hrd0, d2, -, hev, -⟩ := h1.look' ha
  have o1 := (d2 1 (by omega)).trans (show _ = some (Value.int .u64 r.owner) from rfl)
  subst ho
  have hR := r14_right r v a y z ev ((p : Int) + 1) (w.alloc (.cells zAsk 49)) hev he.1 he.2 hp
  rw [hr] at hR
  have hR := Lib.hid hR
  have hlt := ha.lt
  have hrd : rdAt (w.alloc (.cells zAsk 49)) ⟨g, i * 12, none⟩ 12 = some #[.int .u32 r.n, .int .u64 r.owner, .int .i64 r.ask.pin, v, a, y, z, .bool r.ask.has, .int .i64 r.ask.ld, .int .u32 r.ask.li, ev, .int .u32 r.used] := hrd0
  have hH := Lib.hid h
  have haH := Lib.hid ha
  unfold zAsk at hA d1 o1 hrd hR
  clear h h1 ha d2 hev hrd0 he hp hr
  go_enter Try.func39, Try.ntmps39
  go_wp2_with fail
  refine hA.out.mono ?_
  rintro e w1 ⟨rfl, rfl⟩
  clear hA
  go_wp2_with fail
  refine hR.out.mono ?_
  rintro e w1 ⟨rfl, k1⟩
  clear hR
  have hB := (Blk.new w zAsk 49).kp k1 id
  have k2 := ((Kp.refl (fun _ => False) w).alloc (.cells zAsk 49)).trans k1
  have hT1 := hH.out.kp k2
  obtain ⟨g2, cap2, v2, a2, y2, z2, ev2, f1, -, f2, hask, hev, hgl⟩ := hT1.look' haH.out
  have c1 := k1.cell0 d1
  rw [c1] at f1
  simp only [Option.some.injEq, Value.slice.injEq, Addr.mk.injEq, and_true, true_and] at f1
  obtain ⟨rfl, rfl⟩ := f1
  obtain ⟨g3, cap3, rfl, -, hg3⟩ := RowsO.big hev (by simp; omega)
  obtain ⟨u1, u2⟩ := hT1.used haH.out now c1
  obtain ⟨hBg, cur, hgB⟩ := hT1.cells c1
  obtain ⟨-, cur3, hg3B⟩ := RowsO.blk hev
  have hgne : g3 ≠ g := hg3B.ne hgB (by decide)
  have hgn2 : g ≠ w.heap.size := by
    rintro rfl
    have := (hgB.inj hB).2
    exact absurd this (by decide)
  have hg3n : g3 ≠ w.heap.size := by
    rintro rfl
    have := (hg3B.inj hB).2
    exact absurd this (by decide)
  obtain ⟨-, hec, -⟩ := RowsO.at hev p (by simpa using hpl)
  rw [List.length_map] at *
  have hfz : w1.frozen? ⟨g, i * 12 + 11, none⟩ = false := hgB.frozen _
  obtain ⟨vt, hTb⟩ := hT1.blk
  have hcg : c ≠ g := hTb.ne hgB (by decide)
  have hcl : c < w1.heap.size := hTb.lt
  have hpm : p % 4294967296 = p := Nat.mod_eq_of_lt (by have := hp1000; omega)
  have hwl : w.heap.size < w1.heap.size := hB.lt
  have n1 : ¬ c = w1.heap.size := by omega
  have n2 : ¬ g = w1.heap.size := by omega
  have n3 : ¬ g3 = w1.heap.size := by omega
  have n4 : ¬ w.heap.size = w1.heap.size := by omega
  obtain ⟨va, aa, ya, na, heq, i1, i2, i3, i4⟩ := id hask
  simp only [List.cons.injEq, and_true, true_and] at heq
  obtain ⟨rfl, rfl, rfl, rfl⟩ := heq
  obtain ⟨VA, vc, rfl, -⟩ := i1.one
  obtain ⟨AA, ac, rfl, -⟩ := i2.one
  obtain ⟨YA, yc, rfl, -⟩ := i3.one
  obtain ⟨NA, nc, rfl, -⟩ := i4.one
  obtain ⟨z0, z1, z2, z3, z4, z5, z6, z7, zf⟩ := zask_at hB
  have s2 := (f2 2 (by omega)).trans (show _ = some (Value.int .i64 r.ask.pin) from rfl)
  have s3 := (f2 3 (by omega)).trans (show _ = some (.slice VA r.ask.vec.length vc) from rfl)
  have s4 := (f2 4 (by omega)).trans (show _ = some (.slice AA r.ask.al.length ac) from rfl)
  have s5 := (f2 5 (by omega)).trans (show _ = some (.slice YA r.ask.an.length yc) from rfl)
  have s6 := (f2 6 (by omega)).trans (show _ = some (.slice NA r.ask.no.length nc) from rfl)
  have s7 := (f2 7 (by omega)).trans (show _ = some (Value.bool r.ask.has) from rfl)
  have s8 := (f2 8 (by omega)).trans (show _ = some (Value.int .i64 r.ask.ld) from rfl)
  have s9 := (f2 9 (by omega)).trans (show _ = some (Value.int .u32 r.ask.li) from rfl)
  have s10 := (f2 10 (by omega)).trans (show _ = some (.slice (some ⟨g3, 0, none⟩) r.ends.length cap3) from rfl)
  have s11 := (f2 11 (by omega)).trans (show _ = some (Value.int .u32 r.used) from rfl)
  have t0 := (hec 0 (by omega)).trans (show _ = some (Value.bool r.ends[p].1) by simp [endV])
  have t1 := (hec 1 (by omega)).trans (show _ = some (Value.int .i64 r.ends[p].2.1) by simp [endV])
  have t2 := (hec 2 (by omega)).trans (show _ = some (Value.int .u32 r.ends[p].2.2) by simp [endV])
  rw [Nat.add_zero] at t0
  have hX := Lib.hid (And.intro hask (And.intro u1 u2))
  clear d1 o1 hrd f2 hec hev hT1 hask u1 u2 k1 i1 i2 i3 i4 hgB hg3B hTb
  have hB2 := Lib.hid (hB.set_other (a := ⟨g, i * 12 + 11, none⟩) (Ne.symm hgn2) (.int .u32 now))
  clear hB
  go_wp2_with fail
  obtain ⟨hask, u1, u2⟩ := hX.out
  obtain ⟨r1, r2⟩ := set8 (.int .i64 r.ask.pin) (.slice VA r.ask.vec.length vc) (.slice AA r.ask.al.length ac) (.slice YA r.ask.an.length yc) (.slice NA r.ask.no.length nc) (.bool r.ends[p].1) (.int .i64 r.ends[p].2.1) (.int .u32 r.ends[p].2.2) hB2.out
  have kA := ((Kt.refl (B := 0) (T := fun t => t = 49) (M := False) _).blk hB2.out rfl (Nat.zero_le _) r2).alloc (.cells #[.int .i64 r.ask.pin, .slice VA r.ask.vec.length vc, .slice AA r.ask.al.length ac, .slice YA r.ask.an.length yc, .slice NA r.ask.no.length nc, .bool r.ends[p].1, .int .i64 r.ends[p].2.1, .int .u32 r.ends[p].2.2] 49)
  have hT5 := u1.kt kA (by decide) (by decide) (by decide)
  have kB := ((((Kt.of_kp k2).trans u2).fresh r2 (fun i hi => by omega)).alloc (.cells #[.int .i64 r.ask.pin, .slice VA r.ask.vec.length vc, .slice AA r.ask.al.length ac, .slice YA r.ask.an.length yc, .slice NA r.ask.no.length nc, .bool r.ends[p].1, .int .i64 r.ends[p].2.1, .int .u32 r.ends[p].2.2] 49))
  have hA : AskR w0 [.int .i64 r.ask.pin, .slice VA r.ask.vec.length vc, .slice AA r.ask.al.length ac, .slice YA r.ask.an.length yc, .slice NA r.ask.no.length nc, .bool r.ends[p].1, .int .i64 r.ends[p].2.1, .int .u32 r.ends[p].2.2] { r.ask with has := (r.ends.getD p (false, 0, 0)).1, ld := (r.ends.getD p (false, 0, 0)).2.1, li := (r.ends.getD p (false, 0, 0)).2.2 } := by
    obtain ⟨va, aa, ya, na, heq, i1, i2, i3, i4⟩ := hask
    simp only [List.cons.injEq, and_true, true_and] at heq
    obtain ⟨rfl, rfl, rfl, rfl⟩ := heq
    exact ⟨_, _, _, _, by simp [List.getD, hpl], i1, i2, i3, i4⟩
  exact bodyPost_ret (v := .tuple #[.agg #[.int .i64 r.ask.pin, .slice VA r.ask.vec.length vc, .slice AA r.ask.al.length ac, .slice YA r.ask.an.length yc, .slice NA r.ask.no.length nc, .bool r.ends[p].1, .int .i64 r.ends[p].2.1, .int .u32 r.ends[p].2.2], .int .i64 0]) (results_struct_tmp (P := Try.prog) (n := 8) rfl Try.underlying49 rfl (by kernel_rfl) (by decide) rfl rfl (r1.alloc (.cells #[.int .i64 r.ask.pin, .slice VA r.ask.vec.length vc, .slice AA r.ask.al.length ac, .slice YA r.ask.an.length yc, .slice NA r.ask.no.length nc, .bool r.ends[p].1, .int .i64 r.ends[p].2.1, .int .u32 r.ends[p].2.2] 49)).row rfl) rfl ⟨_, rfl, hA, hT5, kB⟩
end Go.Proofs.Ytcamhpjgpjihhaa

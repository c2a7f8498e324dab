/- Cursor: Close, Take, Told. -/
import Derived.Test.YtcamhpjgpjihhaaCur4
namespace Go.Proofs.Ytcamhpjgpjihhaa
set_option linter.unusedVariables false
set_option linter.unusedSimpArgs false
open Go.RowKit

theorem set8 {w : World} {r : Nat} {t : TypeId} {z0 z1 z2 z3 z4 z5 z6 z7 : Value} (x0 x1 x2 x3 x4 x5 x6 x7 : Value) (h : Blk w r #[z0, z1, z2, z3, z4, z5, z6, z7] t) :
    Blk ((((((((w.setCell ⟨r, 0, none⟩ x0).setCell ⟨r, 1, none⟩ x1).setCell ⟨r, 2, none⟩ x2).setCell ⟨r, 3, none⟩ x3).setCell ⟨r, 4, none⟩ x4).setCell ⟨r, 5, none⟩ x5).setCell ⟨r, 6, none⟩ x6).setCell ⟨r, 7, none⟩ x7) r #[x0, x1, x2, x3, x4, x5, x6, x7] t ∧ Kp (fun i => i = r) w ((((((((w.setCell ⟨r, 0, none⟩ x0).setCell ⟨r, 1, none⟩ x1).setCell ⟨r, 2, none⟩ x2).setCell ⟨r, 3, none⟩ x3).setCell ⟨r, 4, none⟩ x4).setCell ⟨r, 5, none⟩ x5).setCell ⟨r, 6, none⟩ x6).setCell ⟨r, 7, none⟩ x7) := by
  have h0 : Blk _ r #[x0, z1, z2, z3, z4, z5, z6, z7] t := h.set 0 x0
  have h1 : Blk _ r #[x0, x1, z2, z3, z4, z5, z6, z7] t := h0.set 1 x1
  have h2 : Blk _ r #[x0, x1, x2, z3, z4, z5, z6, z7] t := h1.set 2 x2
  have h3 : Blk _ r #[x0, x1, x2, x3, z4, z5, z6, z7] t := h2.set 3 x3
  have h4 : Blk _ r #[x0, x1, x2, x3, x4, z5, z6, z7] t := h3.set 4 x4
  have h5 : Blk _ r #[x0, x1, x2, x3, x4, x5, z6, z7] t := h4.set 5 x5
  have h6 : Blk _ r #[x0, x1, x2, x3, x4, x5, x6, z7] t := h5.set 6 x6
  have h7 : Blk _ r #[x0, x1, x2, x3, x4, x5, x6, x7] t := h6.set 7 x7
  exact ⟨h7, (((((((((Kp.refl _ w).set1 0 _).set1 1 _).set1 2 _).set1 3 _).set1 4 _).set1 5 _).set1 6 _).set1 7 _)⟩

def zAsk : Array Value := #[.int .i64 0, .slice none 0 0, .slice none 0 0, .slice none 0 0, .slice none 0 0, .bool false, .int .i64 0, .int .u32 0]

set_option maxHeartbeats 2000000 in
theorem take_none {w : World} {B bt bm : Nat} {idle last : Int} {l : CurL} (owner n page now : Int) (h : TabAt w B bt bm idle last l) (hl : NotMine l owner n) :
    Calls Try.prog 28 #[.pointer (some ⟨bt, 0, none⟩), .int .u64 owner, .int .u32 n, .int .u32 page, .int .u32 now] w fun e w' => e = .returned (.tuple #[.agg zAsk, .int .i64 140]) ∧ Kp (fun _ => False) w w' := by
  have hT := Lib.hid (mine_no (owner := owner) (h.kp ((Kp.refl _ w).alloc (.cells zAsk 49))) hl)
  unfold zAsk at hT
  clear h hl
  go_enter Try.func28, Try.ntmps28
  go_wp2_with fail
  refine hT.out.mono ?_
  rintro e w1 ⟨rfl, rfl⟩
  clear hT
  go_wp2_with fail
  exact bodyPost_ret (v := .tuple #[.agg zAsk, .int .i64 140]) (results_struct_tmp (P := Try.prog) (n := 8) rfl Try.underlying49 rfl (by kernel_rfl) (by decide) rfl rfl (Blk.new w _ _).row rfl) rfl ⟨rfl, (Kp.refl _ w).alloc _⟩

set_option maxHeartbeats 2000000 in
theorem take_wrong {w : World} {B bt bm : Nat} {idle last : Int} {l : CurL} {n : Int} {b : Nat} {c : Cur} (owner page now : Int) (h : TabAt w B bt bm idle last l) (hl : lookC l n = some (b, c)) (ho : c.owner = owner) (hr : rightC c page = false) (h0 : 0 ≤ page) (h1 : page < 4294967296) :
    Calls Try.prog 28 #[.pointer (some ⟨bt, 0, none⟩), .int .u64 owner, .int .u32 n, .int .u32 page, .int .u32 now] w fun e w' => e = .returned (.tuple #[.agg zAsk, .int .i64 1]) ∧ Kp (fun _ => False) w w' := by
  have h' := h.kp ((Kp.refl _ w).alloc (.cells zAsk 49))
  have hT := Lib.hid (mine_has owner h' hl ho)
  have hR := prog_rightc page (h'.cur _ (lookC_mem hl)).2 h0 h1
  rw [hr] at hR
  have hR := Lib.hid hR
  unfold zAsk at hT hR
  clear h hl h' hr ho h0 h1
  go_enter Try.func28, Try.ntmps28
  go_wp2_with fail
  refine hT.out.mono ?_
  rintro e w1 ⟨rfl, rfl⟩
  clear hT
  go_wp2_with fail
  refine hR.out.mono ?_
  rintro e w1 ⟨rfl, rfl⟩
  clear hR
  go_wp2_with fail
  exact bodyPost_ret (v := .tuple #[.agg zAsk, .int .i64 1]) (results_struct_tmp (P := Try.prog) (n := 8) rfl Try.underlying49 rfl (by kernel_rfl) (by decide) rfl rfl (Blk.new w _ _).row rfl) rfl ⟨rfl, (Kp.refl _ w).alloc _⟩

/-- The end of the page behind which page p lies. -/
def behind (c : Cur) (p : Int) : Bool × Int × Int := if p = c.page then (c.ah, c.ad, c.ai) else (c.lh, c.ld, c.li)
def askOf (c : Cur) (p : Int) : AskC := { c.ask with has := (behind c p).1, ld := (behind c p).2.1, li := (behind c p).2.2 }

def TakePost (w : World) (B bt bm : Nat) (idle last : Int) (l : CurL) (n page now : Int) (c : Cur) (e : Ending) (w' : World) : Prop :=
  ∃ cs, e = .returned (.tuple #[.agg (List.toArray cs), .int .i64 0]) ∧ AskO w' B cs (askOf c page) ∧ TabAt w' B bt bm idle last (setC l n { c with used := now }) ∧ Kt B TC True w w'

theorem lookC_set {l : CurL} {n : Int} {b : Nat} {c : Cur} (c' : Cur) (hl : lookC l n = some (b, c)) : lookC (setC l n c') n = some (b, c') := by
  unfold lookC setC at *
  induction l with
  | nil => simp at hl
  | cons p l ih =>
    by_cases h : p.1 = n
    · simp [h] at hl ⊢
      rw [hl]
    · simp only [List.find?_cons, h, decide_false] at hl
      simp only [List.map_cons, h, if_false, List.find?_cons, decide_false]
      exact ih hl

set_option maxHeartbeats 1000000 in
theorem take_ok {w : World} {B bt bm : Nat} {idle last : Int} {l : CurL} {n : Int} {b : Nat} {c : Cur} (owner page now : Int) (h : TabAt w B bt bm idle last l) (hB : B ≤ w.heap.size) (hl : lookC l n = some (b, c)) (ho : c.owner = owner) (hr : rightC c page = true) (hs : c.ask.small) (h0 : 0 ≤ page) (h1 : page < 4294967296) :
    Calls Try.prog 28 #[.pointer (some ⟨bt, 0, none⟩), .int .u64 owner, .int .u32 n, .int .u32 page, .int .u32 now] w (TakePost w B bt bm idle last l n page now c) := by
  have h' := h.kp ((Kp.refl _ w).alloc (.cells zAsk 49))
  have hT := Lib.hid (mine_has owner h' hl ho)
  have hR := prog_rightc page (h'.cur _ (lookC_mem hl)).2 h0 h1
  rw [hr] at hR
  have hR := Lib.hid hR
  obtain ⟨hbB, v, a, y, z, q0, q1, q2, q3, q4⟩ := h'.cur _ (lookC_mem hl)
  have hrB := Blk.new w zAsk 49
  have kt : Kt B TC True w (w.alloc (.cells zAsk 49)) := (Kt.refl w).alloc _
  unfold zAsk at *
  have hlH := Lib.hid hl
  have hsH := Lib.hid hs
  have hTH := Lib.hid h'
  clear h hl hr ho h0 h1 hs h'
  go_enter Try.func28, Try.ntmps28
  go_wp2_with fail
  generalize hgr : w.heap.size = r at *
  have hgr := Lib.hid hgr
  generalize (w.alloc (.cells #[.int .i64 0, .slice none 0 0, .slice none 0 0, .slice none 0 0, .slice none 0 0, .bool false, .int .i64 0, .int .u32 0] 49)) = W at *
  refine hT.out.mono ?_
  rintro e w1 ⟨rfl, rfl⟩
  clear hT
  go_wp2_with fail
  refine hR.out.mono ?_
  rintro e w1 ⟨rfl, rfl⟩
  clear hR
  have o1 : (W).cell? ⟨b, 1, none⟩ = some (.int .i64 c.ask.pin) := (q0.cell 1).trans rfl
  have o2 : (W).cell? ⟨b, 2, none⟩ = some (v) := (q0.cell 2).trans rfl
  have o3 : (W).cell? ⟨b, 3, none⟩ = some (a) := (q0.cell 3).trans rfl
  have o4 : (W).cell? ⟨b, 4, none⟩ = some (y) := (q0.cell 4).trans rfl
  have o5 : (W).cell? ⟨b, 5, none⟩ = some (z) := (q0.cell 5).trans rfl
  have o6 : (W).cell? ⟨b, 6, none⟩ = some (.bool c.ask.has) := (q0.cell 6).trans rfl
  have o7 : (W).cell? ⟨b, 7, none⟩ = some (.int .i64 c.ask.ld) := (q0.cell 7).trans rfl
  have o8 : (W).cell? ⟨b, 8, none⟩ = some (.int .u32 c.ask.li) := (q0.cell 8).trans rfl
  have o9 : (W).cell? ⟨b, 9, none⟩ = some (.int .u32 c.page) := (q0.cell 9).trans rfl
  have o10 : (W).cell? ⟨b, 10, none⟩ = some (.bool c.lh) := (q0.cell 10).trans rfl
  have o11 : (W).cell? ⟨b, 11, none⟩ = some (.int .i64 c.ld) := (q0.cell 11).trans rfl
  have o12 : (W).cell? ⟨b, 12, none⟩ = some (.int .u32 c.li) := (q0.cell 12).trans rfl
  have o13 : (W).cell? ⟨b, 13, none⟩ = some (.bool c.ah) := (q0.cell 13).trans rfl
  have o14 : (W).cell? ⟨b, 14, none⟩ = some (.int .i64 c.ad) := (q0.cell 14).trans rfl
  have o15 : (W).cell? ⟨b, 15, none⟩ = some (.int .u32 c.ai) := (q0.cell 15).trans rfl
  have o16 : (W).cell? ⟨b, 16, none⟩ = some (.int .u32 c.used) := (q0.cell 16).trans rfl
  have f16 := q0.frozen 16
  have hne : b ≠ r := q0.ne hrB (by decide)
  have q0' : Blk (W.setCell ⟨b, 16, none⟩ (.int .u32 now)) b (Cur.cells { c with used := now } v a y z) 103 := q0.set 16 (.int .u32 now)
  have hbl : b < W.heap.size := q0.lt
  have hnb : ¬ b = W.heap.size := by omega
  have u1 := own_kp q1 ((Kp.refl _ W).set1 16 (.int .u32 now)) (own_ne_blk q1 q0 (by decide))
  have u2 := own_kp q2 ((Kp.refl _ W).set1 16 (.int .u32 now)) (own_ne_blk q2 q0 (by decide))
  have u3 := own_kp q3 ((Kp.refl _ W).set1 16 (.int .u32 now)) (own_ne_blk q3 q0 (by decide))
  have u4 := own_kp q4 ((Kp.refl _ W).set1 16 (.int .u32 now)) (own_ne_blk q4 q0 (by decide))
  have hT1 := hTH.out.set hlH.out { c with used := now } ((Kp.refl _ W).set1 16 (.int .u32 now)) ⟨v, a, y, z, q0', u1, u2, u3, u4⟩
  have kt := kt.setCell q0 (.inr rfl) hbB 16 (.int .u32 now)
  have hR1 := hrB.set_other (a := ⟨b, 16, none⟩) (fun e => hne e.symm) (.int .u32 now)
  have hsz : (W.setCell ⟨b, 16, none⟩ (.int .u32 now)).heap.size = W.heap.size := by simp
  have hC := fun (E : Obj) => prog_own [.int .i64 c.ask.pin, v, a, y, z, .bool c.ask.has, .int .i64 c.ask.ld, .int .u32 c.ask.li] c.ask ((W.setCell ⟨b, 16, none⟩ (.int .u32 now)).alloc E)
    ⟨v, a, y, z, rfl, OwnI.ints (OwnR.kp u1 ((Kp.refl _ _).alloc E)), OwnT.strs (OwnR.kp u2 ((Kp.refl _ _).alloc E)), OwnT.strs (OwnR.kp u3 ((Kp.refl _ _).alloc E)), OwnT.strs (OwnR.kp u4 ((Kp.refl _ _).alloc E))⟩ hsH.out
  have hC := Lib.hid hC
  have hT1 := Lib.hid hT1
  have hBW : B ≤ W.heap.size := by omega
  have hW1 := fun (cs : Array Value) => Blk.new (W.setCell ⟨b, 16, none⟩ (.int .u32 now)) cs 101
  rw [hsz] at hW1
  have hW1 := Lib.hid hW1
  have hrl : r < W.heap.size := hrB.lt
  clear hsz q0' u1 u2 u3 u4 hTH
  by_cases hp : page = c.page
  · have e1 : (page == c.page) = true := by simpa using hp
    have hpH := Lib.hid hp
    clear hp
    go_wp2_with fail
    refine (hC.out _).mono ?_
    rintro e w3 ⟨cs', rfl, ⟨v', a', y', n', rfl, t1, t2, t3, t4⟩, k3⟩
    have hE := (hW1.out _).kp k3 id
    have hR := (hR1.alloc _).kp k3 id
    have hT3 := Lib.hid ((hT1.out.kp ((Kp.refl _ _).alloc _)).kp k3)
    have kt3 := Lib.hid ((kt.alloc _).kp k3)
    have hs3 := k3.size
    simp at hs3
    obtain ⟨vA, vc, rfl⟩ := OwnR.form t1
    obtain ⟨aA, ac, rfl⟩ := OwnR.form t2
    obtain ⟨yA, yc, rfl⟩ := OwnR.form t3
    obtain ⟨nA, nc, rfl⟩ := OwnR.form t4
    have hbb : B ≤ ((W.setCell ⟨b, 16, none⟩ (.int .u32 now)).alloc (.cells #[.bool c.ah, .int .i64 c.ad, .int .u32 c.ai] 101)).heap.size := by simp; omega
    have hol := Lib.hid (And.intro (OwnR.base t1 hbb) (And.intro (OwnR.base t2 hbb) (And.intro (OwnR.base t3 hbb) (OwnR.base t4 hbb))))
    clear hbb
    clear o1 o2 o3 o4 o5 o6 o7 o8 o9 o10 o11 o12 o13 o14 o15 o16 f16 q0 q1 q2 q3 q4 hC hT1 kt hW1 hR1 hrB k3 t1 t2 t3 t4 hbl hnb
    generalize W.heap.size = g3 at *
    have e0 := (hE.cell 0).trans rfl
    have e1 := (hE.cell 1).trans rfl
    have e2 := (hE.cell 2).trans rfl
    have n1 : g3 < w3.heap.size := hE.lt
    have n2 : r < w3.heap.size := hR.lt
    have n3 : ¬ g3 = w3.heap.size := by omega
    have n4 : ¬ r = w3.heap.size := by omega
    go_wp2_with fail
    go_region
    have d0 : w3.cell? ⟨r, 0, none⟩ = some (.int .i64 0) := (hR.cell 0).trans rfl
    have f0 := hR.frozen 0
    have d1 : w3.cell? ⟨r, 1, none⟩ = some (.slice none 0 0) := (hR.cell 1).trans rfl
    have f1 := hR.frozen 1
    have d2 : w3.cell? ⟨r, 2, none⟩ = some (.slice none 0 0) := (hR.cell 2).trans rfl
    have f2 := hR.frozen 2
    have d3 : w3.cell? ⟨r, 3, none⟩ = some (.slice none 0 0) := (hR.cell 3).trans rfl
    have f3 := hR.frozen 3
    have d4 : w3.cell? ⟨r, 4, none⟩ = some (.slice none 0 0) := (hR.cell 4).trans rfl
    have f4 := hR.frozen 4
    have d5 : w3.cell? ⟨r, 5, none⟩ = some (.bool false) := (hR.cell 5).trans rfl
    have f5 := hR.frozen 5
    have d6 : w3.cell? ⟨r, 6, none⟩ = some (.int .i64 0) := (hR.cell 6).trans rfl
    have f6 := hR.frozen 6
    have d7 : w3.cell? ⟨r, 7, none⟩ = some (.int .u32 0) := (hR.cell 7).trans rfl
    have f7 := hR.frozen 7
    go_wp2_with fail
    obtain ⟨r1, r2⟩ := set8 (.int .i64 c.ask.pin) (.slice vA c.ask.vec.length vc) (.slice aA c.ask.al.length ac) (.slice yA c.ask.an.length yc) (.slice nA c.ask.no.length nc) (.bool c.ah) (.int .i64 c.ad) (.int .u32 c.ai) hR
    have kA := (((Kt.refl (B := 0) (T := fun t => t = 49) (M := False) w3).blk hR rfl (Nat.zero_le _) r2).alloc (.cells #[.int .i64 c.ask.pin, .slice vA c.ask.vec.length vc, .slice aA c.ask.al.length ac, .slice yA c.ask.an.length yc, .slice nA c.ask.no.length nc, .bool c.ah, .int .i64 c.ad, .int .u32 c.ai] 49)).drew
    have kB := ((kt3.out.fresh r2 (fun i hi => by have := hgr.out; omega)).alloc (.cells #[.int .i64 c.ask.pin, .slice vA c.ask.vec.length vc, .slice aA c.ask.al.length ac, .slice yA c.ask.an.length yc, .slice nA c.ask.no.length nc, .bool c.ah, .int .i64 c.ad, .int .u32 c.ai] 49)).drew
    have hT5 := hT3.out.kt kA (by decide) (by decide) (by decide) (by decide) id
    obtain ⟨t1, t2, t3, t4⟩ := hol.out
    have hb : behind c page = (c.ah, c.ad, c.ai) := by unfold behind; rw [if_pos hpH.out]
    have hA : AskO _ B [.int .i64 c.ask.pin, .slice vA c.ask.vec.length vc, .slice aA c.ask.al.length ac, .slice yA c.ask.an.length yc, .slice nA c.ask.no.length nc, .bool c.ah, .int .i64 c.ad, .int .u32 c.ai] (askOf c page) :=
      ⟨_, _, _, _, (by unfold askOf; rw [hb]), OwnR.kt t1 kA (by decide), OwnR.kt t2 kA (by decide), OwnR.kt t3 kA (by decide), OwnR.kt t4 kA (by decide)⟩
    exact bodyPost_ret (v := .tuple #[.agg #[.int .i64 c.ask.pin, .slice vA c.ask.vec.length vc, .slice aA c.ask.al.length ac, .slice yA c.ask.an.length yc, .slice nA c.ask.no.length nc, .bool c.ah, .int .i64 c.ad, .int .u32 c.ai], .int .i64 0]) (results_struct_tmp (P := Try.prog) (n := 8) rfl Try.underlying49 rfl (by kernel_rfl) (by decide) rfl rfl (r1.alloc (.cells #[.int .i64 c.ask.pin, .slice vA c.ask.vec.length vc, .slice aA c.ask.al.length ac, .slice yA c.ask.an.length yc, .slice nA c.ask.no.length nc, .bool c.ah, .int .i64 c.ad, .int .u32 c.ai] 49)).drew.row rfl) rfl
      ⟨_, rfl, hA, hT5, kB⟩
  · have e1 : (page == c.page) = false := by simpa using hp
    have hpH := Lib.hid hp
    clear hp
    go_wp2_with fail
    refine (hC.out _).mono ?_
    rintro e w3 ⟨cs', rfl, ⟨v', a', y', n', rfl, t1, t2, t3, t4⟩, k3⟩
    have hE := (hW1.out _).kp k3 id
    have hR := (hR1.alloc _).kp k3 id
    have hT3 := Lib.hid ((hT1.out.kp ((Kp.refl _ _).alloc _)).kp k3)
    have kt3 := Lib.hid ((kt.alloc _).kp k3)
    have hs3 := k3.size
    simp at hs3
    obtain ⟨vA, vc, rfl⟩ := OwnR.form t1
    obtain ⟨aA, ac, rfl⟩ := OwnR.form t2
    obtain ⟨yA, yc, rfl⟩ := OwnR.form t3
    obtain ⟨nA, nc, rfl⟩ := OwnR.form t4
    have hbb : B ≤ ((W.setCell ⟨b, 16, none⟩ (.int .u32 now)).alloc (.cells #[.bool c.lh, .int .i64 c.ld, .int .u32 c.li] 101)).heap.size := by simp; omega
    have hol := Lib.hid (And.intro (OwnR.base t1 hbb) (And.intro (OwnR.base t2 hbb) (And.intro (OwnR.base t3 hbb) (OwnR.base t4 hbb))))
    clear hbb
    clear o1 o2 o3 o4 o5 o6 o7 o8 o9 o10 o11 o12 o13 o14 o15 o16 f16 q0 q1 q2 q3 q4 hC hT1 kt hW1 hR1 hrB k3 t1 t2 t3 t4 hbl hnb
    generalize W.heap.size = g3 at *
    have e0 := (hE.cell 0).trans rfl
    have e1 := (hE.cell 1).trans rfl
    have e2 := (hE.cell 2).trans rfl
    have n1 : g3 < w3.heap.size := hE.lt
    have n2 : r < w3.heap.size := hR.lt
    have n3 : ¬ g3 = w3.heap.size := by omega
    have n4 : ¬ r = w3.heap.size := by omega
    go_wp2_with fail
    go_region
    have d0 : w3.cell? ⟨r, 0, none⟩ = some (.int .i64 0) := (hR.cell 0).trans rfl
    have f0 := hR.frozen 0
    have d1 : w3.cell? ⟨r, 1, none⟩ = some (.slice none 0 0) := (hR.cell 1).trans rfl
    have f1 := hR.frozen 1
    have d2 : w3.cell? ⟨r, 2, none⟩ = some (.slice none 0 0) := (hR.cell 2).trans rfl
    have f2 := hR.frozen 2
    have d3 : w3.cell? ⟨r, 3, none⟩ = some (.slice none 0 0) := (hR.cell 3).trans rfl
    have f3 := hR.frozen 3
    have d4 : w3.cell? ⟨r, 4, none⟩ = some (.slice none 0 0) := (hR.cell 4).trans rfl
    have f4 := hR.frozen 4
    have d5 : w3.cell? ⟨r, 5, none⟩ = some (.bool false) := (hR.cell 5).trans rfl
    have f5 := hR.frozen 5
    have d6 : w3.cell? ⟨r, 6, none⟩ = some (.int .i64 0) := (hR.cell 6).trans rfl
    have f6 := hR.frozen 6
    have d7 : w3.cell? ⟨r, 7, none⟩ = some (.int .u32 0) := (hR.cell 7).trans rfl
    have f7 := hR.frozen 7
    go_wp2_with fail
    obtain ⟨r1, r2⟩ := set8 (.int .i64 c.ask.pin) (.slice vA c.ask.vec.length vc) (.slice aA c.ask.al.length ac) (.slice yA c.ask.an.length yc) (.slice nA c.ask.no.length nc) (.bool c.lh) (.int .i64 c.ld) (.int .u32 c.li) hR
    have kA := (((Kt.refl (B := 0) (T := fun t => t = 49) (M := False) w3).blk hR rfl (Nat.zero_le _) r2).alloc (.cells #[.int .i64 c.ask.pin, .slice vA c.ask.vec.length vc, .slice aA c.ask.al.length ac, .slice yA c.ask.an.length yc, .slice nA c.ask.no.length nc, .bool c.lh, .int .i64 c.ld, .int .u32 c.li] 49)).drew
    have kB := ((kt3.out.fresh r2 (fun i hi => by have := hgr.out; omega)).alloc (.cells #[.int .i64 c.ask.pin, .slice vA c.ask.vec.length vc, .slice aA c.ask.al.length ac, .slice yA c.ask.an.length yc, .slice nA c.ask.no.length nc, .bool c.lh, .int .i64 c.ld, .int .u32 c.li] 49)).drew
    have hT5 := hT3.out.kt kA (by decide) (by decide) (by decide) (by decide) id
    obtain ⟨t1, t2, t3, t4⟩ := hol.out
    have hb : behind c page = (c.lh, c.ld, c.li) := by unfold behind; rw [if_neg hpH.out]
    have hA : AskO _ B [.int .i64 c.ask.pin, .slice vA c.ask.vec.length vc, .slice aA c.ask.al.length ac, .slice yA c.ask.an.length yc, .slice nA c.ask.no.length nc, .bool c.lh, .int .i64 c.ld, .int .u32 c.li] (askOf c page) :=
      ⟨_, _, _, _, (by unfold askOf; rw [hb]), OwnR.kt t1 kA (by decide), OwnR.kt t2 kA (by decide), OwnR.kt t3 kA (by decide), OwnR.kt t4 kA (by decide)⟩
    exact bodyPost_ret (v := .tuple #[.agg #[.int .i64 c.ask.pin, .slice vA c.ask.vec.length vc, .slice aA c.ask.al.length ac, .slice yA c.ask.an.length yc, .slice nA c.ask.no.length nc, .bool c.lh, .int .i64 c.ld, .int .u32 c.li], .int .i64 0]) (results_struct_tmp (P := Try.prog) (n := 8) rfl Try.underlying49 rfl (by kernel_rfl) (by decide) rfl rfl (r1.alloc (.cells #[.int .i64 c.ask.pin, .slice vA c.ask.vec.length vc, .slice aA c.ask.al.length ac, .slice yA c.ask.an.length yc, .slice nA c.ask.no.length nc, .bool c.lh, .int .i64 c.ld, .int .u32 c.li] 49)).drew.row rfl) rfl
      ⟨_, rfl, hA, hT5, kB⟩
end Go.Proofs.Ytcamhpjgpjihhaa

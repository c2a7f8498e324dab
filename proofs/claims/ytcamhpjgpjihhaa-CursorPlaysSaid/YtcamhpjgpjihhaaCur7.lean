/- Cursor: Told. -/
import Derived.Test.YtcamhpjgpjihhaaCur6
namespace Go.Proofs.Ytcamhpjgpjihhaa
set_option linter.unusedVariables false
set_option linter.unusedSimpArgs false
open Go.RowKit

def sets (b : Nat) (L : List (Nat × Value)) (w : World) : World := L.foldl (fun w p => w.setCell ⟨b, p.1, none⟩ p.2) w
theorem Blk.sets {b : Nat} {t : TypeId} : ∀ (L : List (Nat × Value)) {w : World} {cs : Array Value}, Blk w b cs t → Blk (sets b L w) b (L.foldl (fun cs p => cs.setIfInBounds p.1 p.2) cs) t ∧ Kp (fun i => i = b) w (sets b L w)
  | [], w, _, h => ⟨h, Kp.refl _ w⟩
  | p :: L, w, _, h => by
    obtain ⟨h1, h2⟩ := Blk.sets L (h.set p.1 p.2)
    exact ⟨h1, ((Kp.refl _ w).set1 p.1 p.2).trans h2⟩

def Hits2 (w : World) (v : Value) (l : List (Int × Int)) : Prop := RowN 2 (fun _ es (x : Int × Int) => es = [.int .i64 x.1, .int .u32 x.2]) w v l
theorem Hits2.keeps {w w' : World} {v : Value} {l : List (Int × Int)} (h : Hits2 w v l) (k : Keeps w w') : Hits2 w' v l := RowN.keeps h k fun _ _ h => h

def toldA (c : Cur) (p : Int) : Cur := if p = c.page then c else { c with ah := c.lh, ad := c.ld, ai := c.li }
def toldB (c : Cur) (p : Int) : Cur := { toldA c p with page := p, lh := (toldA c p).ah, ld := (toldA c p).ad, li := (toldA c p).ai }
def toldC (c : Cur) (p : Int) (l : List (Int × Int)) : Cur := match l.getLast? with | none => toldB c p | some x => { toldB c p with lh := true, ld := x.1, li := x.2 }

theorem told_no {w : World} {B bt bm : Nat} {idle last : Int} {l : CurL} (n page : Int) (v : Value) (h : TabAt w B bt bm idle last l) (hl : lookC l n = none) :
    Calls Try.prog 29 #[.pointer (some ⟨bt, 0, none⟩), .int .u32 n, .int .u32 page, v] w fun e w' => e = .returned (.tuple #[]) ∧ w = w' := by
  have c1 : w.cell? ⟨bt, 1, none⟩ = some (.map (some bm)) := (h.blk.cell 1).trans rfl
  have hk := tab_look h n
  rw [hl] at hk
  simp only [Option.map_none, Option.getD_none] at hk
  clear h hl
  go_enter Try.func29, Try.ntmps29
  go_wp2_with fail
  refine bodyPost_ret (results_none rfl _ _ _) rfl ?_
  exact ⟨rfl, rfl⟩

theorem told_wrong {w : World} {B bt bm : Nat} {idle last : Int} {l : CurL} {b : Nat} {c : Cur} (n page : Int) (v : Value) (h : TabAt w B bt bm idle last l) (hl : lookC l n = some (b, c)) (hr : rightC c page = false) (h0 : 0 ≤ page) (h1 : page < 4294967296) :
    Calls Try.prog 29 #[.pointer (some ⟨bt, 0, none⟩), .int .u32 n, .int .u32 page, v] w fun e w' => e = .returned (.tuple #[]) ∧ w = w' := by
  have c1 : w.cell? ⟨bt, 1, none⟩ = some (.map (some bm)) := (h.blk.cell 1).trans rfl
  have hk := tab_look h n
  rw [hl] at hk
  simp only [Option.map_some, Option.getD_some] at hk
  have hR := prog_rightc page (h.cur _ (lookC_mem hl)).2 h0 h1
  rw [hr] at hR
  have hR := Lib.hid hR
  clear h hl hr h0 h1
  go_enter Try.func29, Try.ntmps29
  go_wp2_with fail
  refine hR.out.mono ?_
  rintro e w1 ⟨rfl, rfl⟩
  clear hR
  go_wp2_with fail
  refine bodyPost_ret (results_none rfl _ _ _) rfl ?_
  exact ⟨rfl, rfl⟩

theorem hits_ne {B b : Nat} {w : World} {cs : Array Value} {A : Option Addr} {cap : Nat} {hl : List (Int × Int)} (hb : Blk w b cs 103) (hB : B ≤ b)
    (harg : ∀ w', Kt B TC True w w' → Hits2 w' (.slice A hl.length cap) hl) (k : Nat) (hk : k < hl.length) :
    ∃ g off, A = some ⟨g, off, none⟩ ∧ g ≠ b ∧ w.cell? ⟨g, off + k * 2, none⟩ = some (.int .i64 hl[k].1) ∧ w.cell? ⟨g, off + k * 2 + 1, none⟩ = some (.int .u32 hl[k].2) := by
  obtain ⟨A', cap', e, _, _, hrow⟩ := harg w (Kt.refl w)
  simp only [Value.slice.injEq] at e
  obtain ⟨rfl, -, rfl⟩ := e
  obtain ⟨g, off, es, hA, _, hc, rfl⟩ := hrow k hk
  refine ⟨g, off, hA, ?_, (hc 0 (by omega)).trans rfl, (hc 1 (by omega)).trans rfl⟩
  rintro rfl
  have c0 : w.cell? ⟨g, off + k * 2, none⟩ = some (.int .i64 hl[k].1) := (hc 0 (by omega)).trans rfl
  have kt := (Kt.refl (B := B) (T := TC) (M := True) w).setCell hb (.inr rfl) hB (off + k * 2) (.bool true)
  obtain ⟨A2, cap2, e2, _, _, hrow2⟩ := harg _ kt
  simp only [Value.slice.injEq] at e2
  obtain ⟨rfl, -, rfl⟩ := e2
  obtain ⟨g2, off2, es2, hA2, _, hc2, rfl⟩ := hrow2 k hk
  rw [hA] at hA2
  simp only [Option.some.injEq, Addr.mk.injEq, and_true] at hA2
  obtain ⟨rfl, rfl⟩ := hA2
  have d0 : (w.setCell ⟨g, off + k * 2, none⟩ (.bool true)).cell? ⟨g, off + k * 2, none⟩ = some (.int .i64 hl[k].1) := (hc2 0 (by omega)).trans rfl
  rw [hb.cell] at c0
  have hlt := (Array.getElem?_eq_some_iff.1 c0).1
  rw [(hb.set (off + k * 2) (.bool true)).cell] at d0
  simp [hlt] at d0

def ToldPost (w : World) (B bt bm : Nat) (idle last : Int) (l : CurL) (n : Int) (c' : Cur) (e : Ending) (w' : World) : Prop :=
  e = .returned (.tuple #[]) ∧ TabAt w' B bt bm idle last (setC l n c') ∧ Kt B TC True w w'

theorem told_end {w : World} {B bt bm : Nat} {idle last : Int} {l : CurL} {n : Int} {b : Nat} {c c' : Cur} {v a y z : Value} (L : List (Nat × Value)) (h : TabAt w B bt bm idle last l) (hl : lookC l n = some (b, c))
    (q0 : Blk w b (c.cells v a y z) 103) (q1 : OwnI w 0 v c.ask.vec) (q2 : OwnT w 0 a c.ask.al) (q3 : OwnT w 0 y c.ask.an) (q4 : OwnT w 0 z c.ask.no)
    (he : L.foldl (fun cs p => cs.setIfInBounds p.1 p.2) (c.cells v a y z) = c'.cells v a y z) (ha : c'.ask = c.ask) : TabAt (sets b L w) B bt bm idle last (setC l n c') ∧ Kt B TC True w (sets b L w) := by
  obtain ⟨s1, s2⟩ := q0.sets L
  rw [he] at s1
  refine ⟨h.set hl c' s2 ⟨v, a, y, z, s1, ?_⟩, (Kt.refl w).blk q0 (.inr rfl) (h.cur _ (lookC_mem hl)).1 s2⟩
  rw [ha]
  exact ⟨own_kp q1 s2 (own_ne_blk q1 q0 (by decide)), own_kp q2 s2 (own_ne_blk q2 q0 (by decide)), own_kp q3 s2 (own_ne_blk q3 q0 (by decide)), own_kp q4 s2 (own_ne_blk q4 q0 (by decide))⟩

set_option maxRecDepth 8000 in
set_option maxHeartbeats 4000000 in
theorem told_ok {w : World} {B bt bm : Nat} {idle last : Int} {l : CurL} {b : Nat} {c : Cur} (n page : Int) (vh : Value) (hl : List (Int × Int)) (h : TabAt w B bt bm idle last l) (hk : lookC l n = some (b, c)) (hr : rightC c page = true) (h0 : 0 ≤ page) (h1 : page < 4294967296)
    (harg : ∀ w', Kt B TC True w w' → Hits2 w' vh hl) :
    Calls Try.prog 29 #[.pointer (some ⟨bt, 0, none⟩), .int .u32 n, .int .u32 page, vh] w (ToldPost w B bt bm idle last l n (toldC c page hl)) := by
  have c1 : w.cell? ⟨bt, 1, none⟩ = some (.map (some bm)) := (h.blk.cell 1).trans rfl
  have hlk := tab_look h n
  rw [hk] at hlk
  simp only [Option.map_some, Option.getD_some] at hlk
  have hR := prog_rightc page (h.cur _ (lookC_mem hk)).2 h0 h1
  rw [hr] at hR
  have hR := Lib.hid hR
  obtain ⟨hbB, v, a, y, z, q0, q1, q2, q3, q4⟩ := h.cur _ (lookC_mem hk)
  obtain ⟨hA, hcap, rfl, hlc, hlm, -⟩ := harg w (Kt.refl w)
  have hne := Lib.hid (fun k hk => hits_ne q0 hbB harg k hk)
  have hlen : hl.length ≤ 9223372036854775807 := by simp only [maxLen] at hlm; omega
  have hend := Lib.hid (fun (L : List (Nat × Value)) (c' : Cur) he ha => told_end (c' := c') L h hk q0 q1 q2 q3 q4 he ha)
  have o9 : w.cell? ⟨b, 9, none⟩ = some (.int .u32 c.page) := (q0.cell 9).trans rfl
  have f9 := q0.frozen 9
  have o10 : w.cell? ⟨b, 10, none⟩ = some (.bool c.lh) := (q0.cell 10).trans rfl
  have f10 := q0.frozen 10
  have o11 : w.cell? ⟨b, 11, none⟩ = some (.int .i64 c.ld) := (q0.cell 11).trans rfl
  have f11 := q0.frozen 11
  have o12 : w.cell? ⟨b, 12, none⟩ = some (.int .u32 c.li) := (q0.cell 12).trans rfl
  have f12 := q0.frozen 12
  have o13 : w.cell? ⟨b, 13, none⟩ = some (.bool c.ah) := (q0.cell 13).trans rfl
  have f13 := q0.frozen 13
  have o14 : w.cell? ⟨b, 14, none⟩ = some (.int .i64 c.ad) := (q0.cell 14).trans rfl
  have f14 := q0.frozen 14
  have o15 : w.cell? ⟨b, 15, none⟩ = some (.int .u32 c.ai) := (q0.cell 15).trans rfl
  have f15 := q0.frozen 15
  clear h hk hr h0 h1 harg q0 q1 q2 q3 q4 hlc hlm
  by_cases hp : page = c.page
  · have e1 : (page != c.page) = false := by simp [hp]
    have hpH := Lib.hid hp
    clear hp
    have hp := hpH
    clear hpH
    by_cases hz : hl.length = 0
    · have hd : decide ((0 : Int) < (hl.length : Int)) = false := decide_eq_false (by omega)
      have hlast : Hid (hl.getLast? = none) := by
        unfold Hid
        rw [List.eq_nil_of_length_eq_zero hz]
        rfl
      clear hne
      go_enter Try.func29, Try.ntmps29
      go_wp2_with fail
      refine hR.out.mono ?_
      rintro e w1 ⟨rfl, rfl⟩
      clear hR
      go_wp2_with fail
      go_end0
      obtain ⟨r1, r2⟩ := hend.out [(9, .int .u32 page), (10, .bool c.ah), (11, .int .i64 c.ad), (12, .int .u32 c.ai)] (toldC c page hl) (by unfold toldC toldB toldA; rw [hlast.out, if_pos hp.out]; simp [Cur.cells]) (by unfold toldC toldB toldA; rw [hlast.out, if_pos hp.out])
      exact ⟨rfl, r1, r2⟩
    · have hd : decide ((0 : Int) < (hl.length : Int)) = true := by simp; omega
      obtain ⟨k, hk⟩ : ∃ k, hl.length = k + 1 := ⟨hl.length - 1, by omega⟩
      have hkl : k < hl.length := by omega
      obtain ⟨g, off, rfl, hgb, d0, d1⟩ := hne.out k hkl
      have hlast : Hid (hl.getLast? = some hl[k]) := by
        unfold Hid
        rw [List.getLast?_eq_getElem?, hk, Nat.add_sub_cancel, List.getElem?_eq_getElem hkl]
      have hx : IntKind.i64.wrap ((hl.length : Int) - 1) = (k : Int) := by rw [IntWalk.i64_in _ ⟨by omega, by omega⟩]; omega
      have hl1 : (k : Int) < (hl.length : Int) := by omega
      have hkH := Lib.hid hk
      clear hne hk hz
      generalize hl[k] = x at *
      clear hkl hlen
      go_enter Try.func29, Try.ntmps29
      go_wp2_with fail
      refine hR.out.mono ?_
      rintro e w1 ⟨rfl, rfl⟩
      clear hR
      go_wp2_with fail
      go_end0
      obtain ⟨r1, r2⟩ := hend.out [(9, .int .u32 page), (10, .bool c.ah), (11, .int .i64 c.ad), (12, .int .u32 c.ai), (10, .bool true), (11, .int .i64 x.1), (12, .int .u32 x.2)] (toldC c page hl) (by unfold toldC toldB toldA; rw [hlast.out, if_pos hp.out]; simp [Cur.cells]) (by unfold toldC toldB toldA; rw [hlast.out, if_pos hp.out])
      exact ⟨rfl, r1, r2⟩
  · have e1 : (page != c.page) = true := by simp [hp]
    have hpH := Lib.hid hp
    clear hp
    have hp := hpH
    clear hpH
    by_cases hz : hl.length = 0
    · have hd : decide ((0 : Int) < (hl.length : Int)) = false := decide_eq_false (by omega)
      have hlast : Hid (hl.getLast? = none) := by
        unfold Hid
        rw [List.eq_nil_of_length_eq_zero hz]
        rfl
      clear hne
      go_enter Try.func29, Try.ntmps29
      go_wp2_with fail
      refine hR.out.mono ?_
      rintro e w1 ⟨rfl, rfl⟩
      clear hR
      go_wp2_with fail
      go_end0
      obtain ⟨r1, r2⟩ := hend.out [(13, .bool c.lh), (14, .int .i64 c.ld), (15, .int .u32 c.li), (9, .int .u32 page), (10, .bool c.lh), (11, .int .i64 c.ld), (12, .int .u32 c.li)] (toldC c page hl) (by unfold toldC toldB toldA; rw [hlast.out, if_neg hp.out]; simp [Cur.cells]) (by unfold toldC toldB toldA; rw [hlast.out, if_neg hp.out])
      exact ⟨rfl, r1, r2⟩
    · have hd : decide ((0 : Int) < (hl.length : Int)) = true := by simp; omega
      obtain ⟨k, hk⟩ : ∃ k, hl.length = k + 1 := ⟨hl.length - 1, by omega⟩
      have hkl : k < hl.length := by omega
      obtain ⟨g, off, rfl, hgb, d0, d1⟩ := hne.out k hkl
      have hlast : Hid (hl.getLast? = some hl[k]) := by
        unfold Hid
        rw [List.getLast?_eq_getElem?, hk, Nat.add_sub_cancel, List.getElem?_eq_getElem hkl]
      have hx : IntKind.i64.wrap ((hl.length : Int) - 1) = (k : Int) := by rw [IntWalk.i64_in _ ⟨by omega, by omega⟩]; omega
      have hl1 : (k : Int) < (hl.length : Int) := by omega
      have hkH := Lib.hid hk
      clear hne hk hz
      generalize hl[k] = x at *
      clear hkl hlen
      go_enter Try.func29, Try.ntmps29
      go_wp2_with fail
      refine hR.out.mono ?_
      rintro e w1 ⟨rfl, rfl⟩
      clear hR
      go_wp2_with fail
      go_end0
      obtain ⟨r1, r2⟩ := hend.out [(13, .bool c.lh), (14, .int .i64 c.ld), (15, .int .u32 c.li), (9, .int .u32 page), (10, .bool c.lh), (11, .int .i64 c.ld), (12, .int .u32 c.li), (10, .bool true), (11, .int .i64 x.1), (12, .int .u32 x.2)] (toldC c page hl) (by unfold toldC toldB toldA; rw [hlast.out, if_neg hp.out]; simp [Cur.cells]) (by unfold toldC toldB toldA; rw [hlast.out, if_neg hp.out])
      exact ⟨rfl, r1, r2⟩
end Go.Proofs.Ytcamhpjgpjihhaa

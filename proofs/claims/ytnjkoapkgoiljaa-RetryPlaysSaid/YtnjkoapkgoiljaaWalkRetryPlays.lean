/- RetryPlays: whatever fails and goes well, at whatever ticks, when it may be tried is the document's: the walk. -/
import Derived.Test.YtnjkoapkgoiljaaWalkRetryGood
import Derived.Deep.CutBlock
namespace Go.Proofs.Ytnjkoapkgoiljaa
open Go.RowKit

/-- A slice of operations that came in: each one's kind and tick. -/
def OpsIn (w : World) (A : Option Addr) (len : Nat) : Prop :=
  len ≤ maxLen ∧ ∀ i, i < len → ∃ b off kd n, A = some ⟨b, off, none⟩ ∧ w.cell? ⟨b, off + i * 2, none⟩ = some (.int .u8 kd) ∧ w.cell? ⟨b, off + i * 2 + 1, none⟩ = some (.int .u32 n) ∧ 0 ≤ kd ∧ kd < 256 ∧ 0 ≤ n ∧ n < 4294967296

theorem fields32 : ∃ fs, Try.prog.underlying 32 = some (.struct fs) ∧ fs.toList.map (fun f => (f.type, f.offset)) = [(5, 0), (30, 1)] := ⟨_, Try.underlying32, by kernel_rfl⟩

theorem two_of {es : List Value} (h : es.length = 2) : ∃ x y, es = [x, y] := by
  rcases es with _ | ⟨x, _ | ⟨y, _ | ⟨z, l⟩⟩⟩
  · simp at h
  · simp at h
  · exact ⟨x, y, rfl⟩
  · simp at h

theorem u8bd {n : Int} (h : (Lit.int .u8 n).wf = true) : 0 ≤ n ∧ n < 256 := by
  have := bounds_u8 h
  omega

theorem OpsIn.of_came {w : World} {v : Value} (h : Came Try.prog w 22 v) : ∃ A len cap, v = .slice A len cap ∧ OpsIn w A len := by
  obtain ⟨A, len, cap, rfl, h1, h2, h3⟩ := Came.row Try.underlying22 (by kernel_rfl : Try.prog.cellsOf 32 = 2) (by decide) h
  refine ⟨A, len, cap, rfl, by omega, fun i hi => ?_⟩
  obtain ⟨b, off, es, rfl, hl, he, hc⟩ := h3 i hi
  obtain ⟨fs, hu, hf⟩ := fields32
  obtain ⟨_, hs⟩ := CameC.struct hu hc
  obtain ⟨x, y, rfl⟩ := two_of hl
  have key : ∀ t o, (t, o) ∈ [(5, 0), (30, 1)] → CameC Try.prog w t (([x, y].drop o).take (Try.prog.cellsOf t)) := by
    intro t o hm
    rw [← hf] at hm
    obtain ⟨f, hfm, hfe⟩ := List.mem_map.1 hm
    simp only [Prod.mk.injEq] at hfe
    obtain ⟨rfl, rfl⟩ := hfe
    exact hs f hfm
  have k0 := key 5 0 (by simp)
  have k1 := key 30 1 (by simp)
  rw [show Try.prog.cellsOf 5 = 1 from by kernel_rfl] at k0
  rw [show Try.prog.cellsOf 30 = 1 from by kernel_rfl] at k1
  obtain ⟨kd, e0, hk⟩ := CameC.int Try.underlying5 k0
  obtain ⟨n, e1, hn⟩ := CameC.int Try.underlying30 k1
  simp at e0 e1
  subst e0 e1
  have hk := u8bd hk
  have hn := u32_bd hn
  exact ⟨b, off, kd, n, rfl, by simpa using he 0 (by decide), by simpa using he 1 (by decide), hk.1, hk.2, hn.1, hn.2⟩

theorem OpsIn.below {w w' : World} {A : Option Addr} {len : Nat} (h : OpsIn w A len) (k : Below w.heap.size w w') : OpsIn w' A len :=
  ⟨h.1, fun i hi => by
    obtain ⟨b, off, kd, n, e, hc, hd, hr⟩ := h.2 i hi
    exact ⟨b, off, kd, n, e, (k.cell (World.block_lt_of_cell? w _ hc)).trans hc, (k.cell (World.block_lt_of_cell? w _ hd)).trans hd, hr⟩⟩

/-- The two timers say the same. -/
def Alike (n at_ l : Int) : Prop := n = 0 ∨ at_ = l + WaitR n

theorem alike_may {n at_ l : Int} (h : Alike n at_ l) (now : Int) : MayR n l now = May n at_ now := by
  unfold Alike at h
  unfold MayR May
  rcases h with rfl | rfl
  · simp
  · rfl

theorem ref_may_b (b : Nat) (n l now : Int) (r : Bool) (w : World) (hT : RefAt w b n l) (hn0 : 0 ≤ n) (hn1 : n < 1000000000) (hl0 : 0 ≤ l) (hl1 : l < 4294967296) (h0 : 0 ≤ now) (h1 : now < 4294967296) (hr : MayR n l now = r) :
    Calls Try.prog 19 #[.pointer (some ⟨b, 0, none⟩), .int .i64 now] w fun e w' => e = .returned (.bool r) ∧ Kp (fun _ => False) w w' := hr ▸ ref_may b n l now w hT hn0 hn1 hl0 hl1 h0 h1

theorem wait_behind' (n : Int) (h : 0 ≤ n) : WaitR (n + 1) = Behind n := by
  unfold WaitR Behind
  omega

/-- The outer loop's relation. -/
def RpRel (w : World) (len bT bW : Nat) (i : Value) (wr : World) : Prop :=
  ∃ (k : Nat) (n at_ l : Int), i = .int .i64 k ∧ k ≤ len ∧ k ≤ 100 ∧ 0 ≤ n ∧ n ≤ k ∧ 0 ≤ l ∧ l < 4294967296 ∧ Alike n at_ l ∧ TimerAt wr bT n at_ ∧ RefAt wr bW n l ∧ Below w.heap.size w wr

/-- The inner one's. -/
def RpIn (w : World) (len bT bW : Nat) (n at_ l : Int) (i : Value) (wr : World) : Prop :=
  ∃ k : Nat, i = .int .i64 k ∧ k ≤ len ∧ k ≤ 20 ∧ TimerAt wr bT n at_ ∧ RefAt wr bW n l ∧ Below w.heap.size w wr

/-- Behind the switch. -/
def RpMid (w : World) (k bT bW : Nat) (wx : World) : Prop :=
  ∃ (n at_ l : Int), 0 ≤ n ∧ n ≤ k + 1 ∧ 0 ≤ l ∧ l < 4294967296 ∧ Alike n at_ l ∧ TimerAt wx bT n at_ ∧ RefAt wx bW n l ∧ Below w.heap.size w wx

theorem ref_new_blk (w : World) : RefAt (w.alloc (.cells #[.int .i64 0, .int .i64 0] 29)) w.heap.size 0 0 := Blk.new _ _ _

set_option maxRecDepth 100000 in
set_option maxHeartbeats 4000000 in
theorem retryPlays_walk (v0 v1 : Value) (w : World) (h0 : Came Try.prog w 22 v0) (h1 : Came Try.prog w 23 v1) :
    Calls Try.prog 3 #[v0, v1] w fun e w' => e = .returned (.bool true) ∧ Below w.heap.size w w' := by
  obtain ⟨A, len, cap, rfl, hs⟩ := OpsIn.of_came h0
  obtain ⟨B, len2, cap2, rfl, hu⟩ := U32s.of_came h1
  have hm : len ≤ 9223372036854775807 := by have := hs.1; unfold maxLen at this; omega
  have hm2 : len2 ≤ 9223372036854775807 := by have := hu.1; unfold maxLen at this; omega
  clear h0 h1
  go_enter Try.func3, Try.ntmps3
  go_wp2_with fail
  refine (retry_alive _).mono ?_
  rintro e w1 ⟨rfl, k1⟩
  go_wp2_with fail
  refine (retry_new _).mono ?_
  rintro e w2 ⟨rfl, hT, k2⟩
  have kk := (k1.trans k2)
  have g1 := k1.size
  have g2 := hT.lt
  generalize w1.heap.size = bT at *
  clear k1 k2
  have hT3 : TimerAt (w2.alloc (.cells #[.int .i64 0, .int .i64 0] 29)) bT 0 0 := hT.alloc _
  have hW3 := ref_new_blk w2
  have kk3 := (kk.alloc (.cells #[.int .i64 0, .int .i64 0] 29)).below
  have g3 := kk.size
  go_wp2_with fail
  generalize w2.heap.size = bW at *
  have hne : bT ≠ bW := Nat.ne_of_lt g2
  clear kk hT
  go_loopw [7] (fun i wr => RpRel w len bT bW i wr) (fun i _ => (100 - intOf i).toNat)
  case atStart => exact ⟨0, 0, 0, 0, rfl, by omega, by omega, by omega, by omega, by omega, by omega, .inl rfl, hT3, hW3, kk3⟩
  case round =>
    clear kk3 hT3 hW3
    obtain ⟨k, n, at_, l, rfl, hk1, hk2, hn0, hn1, hl0, hl1, hal, hTk, hWk, hbw⟩ := hrel
    by_cases hlt : k < len ∧ k < 100
    · obtain ⟨hlt1, hlt2⟩ := hlt
      have hu' := hu.below hbw
      obtain ⟨b, off, kd, x, rfl, hc0, hc1, hd0, hd1, hx0, hx1⟩ := hs.2 k hlt1
      have hb0 : b < w.heap.size := World.block_lt_of_cell? w _ hc0
      have hc0 := (hbw.cell hb0).trans hc0
      have hc1 := (hbw.cell hb0).trans hc1
      go_upto_block 2 with fail
      go_cut [] (fun wx => RpMid w k bT bW wx)
      case first =>
        have hkd : kd % 4 = 0 ∨ kd % 4 = 1 ∨ kd % 4 = 2 ∨ kd % 4 = 3 := by omega
        have hbT : b ≠ bT := by omega
        have hbW : b ≠ bW := by omega
        have hsz := hbw.size
        have c0 : wr.cell? ⟨bW, 0, none⟩ = some (.int .i64 n) := (hWk.cell 0).trans rfl
        have c1 : wr.cell? ⟨bW, 1, none⟩ = some (.int .i64 l) := (hWk.cell 1).trans rfl
        have f0 := hWk.frozen 0
        have f1 := hWk.frozen 1
        have hfailed : ∀ w4, TimerAt w4 bT (n + 1) (x + Behind n) → Kp (fun k => k = bT) wr w4 → RpMid w k bT bW ((w4.setCell ⟨bW, 0, none⟩ (.int .i64 (n + 1))).setCell ⟨bW, 1, none⟩ (.int .i64 x)) := by
          intro w4 hT4 k4
          have hb4 := k4.below_of hbw (by omega) (by rintro i rfl; omega)
          have hW4 := hWk.kp k4 (fun h => hne h.symm)
          refine ⟨n + 1, x + Behind n, x, by omega, by omega, hx0, hx1, .inr (by rw [wait_behind' n hn0]), ?_, ?_, ?_⟩
          · exact (hT4.set_other hne _).set_other hne _
          · exact (hW4.set 0 _).set 1 _
          · exact (hb4.setCell (by show w.heap.size ≤ bW; omega) _).setCell (by show w.heap.size ≤ bW; omega) _
        rcases hkd with h | h | h | h
        · have e0 : (kd % 4 == 0) = true := by simp [h]
          clear h
          go_wp2_with fail
          refine (retry_fail _ n at_ _ _ hTk hx0 hx1 hn0 (by omega)).mono ?_
          rintro e w4 ⟨rfl, hT4, k4⟩
          have hW4 := hWk.kp k4 (fun h => hne h.symm)
          have d0 : w4.cell? ⟨bW, 0, none⟩ = some (.int .i64 n) := (hW4.cell 0).trans rfl
          have d1 : w4.cell? ⟨bW, 1, none⟩ = some (.int .i64 l) := (hW4.cell 1).trans rfl
          have g0 := hW4.frozen 0
          have g1' := hW4.frozen 1
          have hc1' := k4.cell hc1 hbT
          have hfin := hfailed w4 hT4 k4
          clear c0 c1 f0 f1 hfailed
          go_wp2
          go_meet
          exact hfin
        · have e0 : (kd % 4 == 0) = false := by simp [h]
          have e1 : (kd % 4 == 1) = true := by simp [h]
          clear h
          go_wp2_with fail
          refine (retry_fail _ n at_ _ _ hTk hx0 hx1 hn0 (by omega)).mono ?_
          rintro e w4 ⟨rfl, hT4, k4⟩
          have hW4 := hWk.kp k4 (fun h => hne h.symm)
          have d0 : w4.cell? ⟨bW, 0, none⟩ = some (.int .i64 n) := (hW4.cell 0).trans rfl
          have d1 : w4.cell? ⟨bW, 1, none⟩ = some (.int .i64 l) := (hW4.cell 1).trans rfl
          have g0 := hW4.frozen 0
          have g1' := hW4.frozen 1
          have hc1' := k4.cell hc1 hbT
          have hfin := hfailed w4 hT4 k4
          clear c0 c1 f0 f1 hfailed
          go_wp2
          go_meet
          exact hfin
        · have e0 : (kd % 4 == 0) = false := by simp [h]
          have e1 : (kd % 4 == 1) = false := by simp [h]
          have e2 : (kd % 4 == 2) = true := by simp [h]
          clear h hfailed
          go_wp2_with fail
          refine (retry_good _ n at_ _ hTk).mono ?_
          rintro e w4 ⟨rfl, hT4, k4⟩
          have hb4 := k4.below_of hbw (by omega) (by rintro i rfl; omega)
          have hW4 := hWk.kp k4 (fun h => hne h.symm)
          have d0 : w4.cell? ⟨bW, 0, none⟩ = some (.int .i64 n) := (hW4.cell 0).trans rfl
          have g0 := hW4.frozen 0
          have hfin : RpMid w k bT bW (w4.setCell ⟨bW, 0, none⟩ (.int .i64 0)) :=
            ⟨0, at_, l, by omega, by omega, hl0, hl1, .inl rfl, hT4.set_other hne _, hW4.set 0 _, hb4.setCell (by show w.heap.size ≤ bW; omega) _⟩
          clear c0 c1 f0 f1
          go_wp2
          go_meet
          exact hfin
        · have e0 : (kd % 4 == 0) = false := by simp [h]
          have e1 : (kd % 4 == 1) = false := by simp [h]
          have e2 : (kd % 4 == 2) = false := by simp [h]
          clear h hfailed
          go_wp2
          go_meet
          exact ⟨n, at_, l, hn0, by omega, hl0, hl1, hal, hTk, hWk, hbw⟩
      case rest =>
        obtain ⟨n, at_, l, hn0, hn1, hl0, hl1, hal, hTk, hWk, hbw⟩ := hcut
        have hc1 := (hbw.cell hb0).trans ‹w.cell? ⟨b, off + k * 2 + 1, none⟩ = some (.int .u32 x)›
        have hu' := hu.below hbw
        have c0 : wc.cell? ⟨bW, 0, none⟩ = some (.int .i64 n) := (hWk.cell 0).trans rfl
        obtain ⟨r, HR⟩ : ∃ r, Hid (May n at_ x = r) := ⟨_, rfl⟩
        have HR2 : Hid (MayR n l x = r) := (alike_may hal x).trans HR.out
        have hnn : (n != n) = false := by simp
        have hTd : TimerAt wc.drew bT n at_ := hTk
        have hWd : RefAt wc.drew bW n l := hWk
        have hrr : (r != r) = false := by simp
        have hwx : IntKind.i64.wrap x = x := IntWalk.i64_in x ⟨by omega, by omega⟩
        go_wp2_with fail
        go_region_held3 (fun w' => w'.cell? ⟨bW, 0, none⟩ = some (.int .i64 n) ∧ w'.cell? ⟨b, off + k * 2 + 1, none⟩ = some (.int .u32 x)) (first | exact ⟨c0, hc1⟩ | exact ⟨d0, d1⟩ | go_keep)
          (first | (go_at_call 17; refine (retry_fails _ n at_ _ hTd hn0 (by omega)).mono ?_; rintro e w' ⟨rfl, rfl⟩) | (go_at_call 18; refine (retry_may_b _ n at_ _ r _ hTd hx0 hx1 HR.out).mono ?_; rintro e w' ⟨rfl, rfl⟩) | (go_at_call 19; refine (ref_may_b _ n l _ r _ hWd hn0 (by omega) hl0 hl1 hx0 hx1 HR2.out).mono ?_; rintro e w' ⟨rfl, hk⟩; have d0 := hk.cell0 c0; have d1 := hk.cell0 hc1))
        have hk := (Kp.refl _ wc).drew.trans hk
        have hT6 := hTk.kp hk id
        have hW6 := hWk.kp hk id
        have hb6 : Below w.heap.size w w' := hk.below_of hbw hbw.size (fun _ h => h.elim)
        clear hwx hTd hWd hc1 c0 hk hbw hTk hWk HR HR2 d0 d1 hu'
        go_wp2_with fail
        go_loopw [8] (fun i wr => RpIn w len2 bT bW n at_ l i wr) (fun i _ => (20 - intOf i).toNat)
        case atStart => exact ⟨0, rfl, by omega, by omega, hT6, hW6, hb6⟩
        case round =>
          clear hT6 hW6 hb6
          obtain ⟨j, rfl, hj1, hj2, hTj, hWj, hbj⟩ := hrel
          by_cases hlj : j < len2 ∧ j < 20
          · obtain ⟨hlj1, hlj2⟩ := hlj
            obtain ⟨b2, off2, y, rfl, hcy, hy0, hy1⟩ := (hu.below hbj).2 j hlj1
            obtain ⟨r2, HR⟩ : ∃ r, Hid (May n at_ y = r) := ⟨_, rfl⟩
            have HR2 : Hid (MayR n l y = r2) := (alike_may hal y).trans HR.out
            have hrr2 : (r2 != r2) = false := by simp
            have hTd : TimerAt _ bT n at_ := hTj.drew
            have hWd : RefAt _ bW n l := hWj.drew
            have hwy : IntKind.i64.wrap y = y := IntWalk.i64_in y ⟨by omega, by omega⟩
            go_wp2_with fail
            go_region_held3 (fun w' => w'.cell? ⟨b2, off2 + j, none⟩ = some (.int .u32 y)) (first | exact hcy | exact d0 | go_keep)
              (first | (go_at_call 18; refine (retry_may_b _ n at_ _ r2 _ hTd hy0 hy1 HR.out).mono ?_; rintro e w' ⟨rfl, rfl⟩) | (go_at_call 19; refine (ref_may_b _ n l _ r2 _ hWd hn0 (by omega) hl0 hl1 hy0 hy1 HR2.out).mono ?_; rintro e w7 ⟨rfl, hk⟩; have d0 := hk.cell0 hcy))
            have hk := (Kp.refl _ _).drew.trans hk
            have hT7 := hTj.kp hk id
            have hW7 := hWj.kp hk id
            have hb7 : Below w.heap.size w w7 := hk.below_of hbj hbj.size (fun _ h => h.elim)
            clear hwy hTd hWd hcy hk hbj hTj hWj HR HR2 d0
            go_wp2_with fail
            go_roundw
            case rel => exact ⟨j + 1, by go_num, by omega, by omega, hT7, hW7, hb7⟩
            case measure => simp [intOf]; omega
          · have hcase : (decide (j < len2) = false) ∨ ((decide (j < len2) = true) ∧ ¬ (j : Int) < 20) := by
              by_cases h : j < len2
              · exact .inr ⟨by simpa using h, by omega⟩
              · exact .inl (by simpa using h)
            clear hlj
            rcases hcase with hl | ⟨hl, hl2⟩
            all_goals
              go_wp2_with fail
              go_roundw
              case rel => exact ⟨k + 1, n, at_, l, by go_num, by omega, by omega, hn0, by omega, hl0, hl1, hal, hTj, hWj, hbj⟩
              case measure => simp [intOf]; omega
    · have hcase : (decide (k < len) = false) ∨ ((decide (k < len) = true) ∧ ¬ (k : Int) < 100) := by
        by_cases h : k < len
        · exact .inr ⟨by simpa using h, by omega⟩
        · exact .inl (by simpa using h)
      clear hlt
      rcases hcase with hl | ⟨hl, hl2⟩
      all_goals
        go_wp2_with fail
        go_ret
        exact ⟨rfl, hbw⟩
end Go.Proofs.Ytnjkoapkgoiljaa

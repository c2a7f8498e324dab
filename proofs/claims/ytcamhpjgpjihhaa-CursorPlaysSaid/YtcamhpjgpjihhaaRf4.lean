/- The reference's table of cursors: Told. -/
import Derived.Test.YtcamhpjgpjihhaaRf3
import Derived.Maps.AppendAt
import Derived.Deep.AppendLies
namespace Go.Proofs.Ytcamhpjgpjihhaa
set_option linter.unusedVariables false
set_option linter.unusedSimpArgs false
open Go.RowKit
attribute [local go_sem ↓] loadC
attribute [local go_sem] isPtrA_ptr adrOf_ptr

set_option maxRecDepth 8000 in
set_option maxHeartbeats 2000000 in
theorem r14_told_none {w0 w : World} {B c : Nat} {idle last : Int} {rs : List RC} (n page : Int) (v : Value) (h : RTab w0 w B c idle last rs) (hf : ∀ r ∈ rs, r.n ≠ n) (hl : rs.length ≤ 1000) :
    Calls Try.prog 40 #[.pointer (some ⟨c, 0, none⟩), .int .u32 n, .int .u32 page, v] w fun e w' => e = .returned (.tuple #[]) ∧ Kp (fun _ => False) w w' := by
  have hA := Lib.hid (r14_at_no h hf hl)
  clear h hf
  go_enter Try.func40, Try.ntmps40
  go_wp2_with fail
  refine hA.out.mono ?_
  rintro e w1 ⟨rfl, rfl⟩
  clear hA
  go_wp2_with fail
  refine bodyPost_ret (results_none rfl _ _ _) rfl ?_
  exact ⟨rfl, Kp.refl _ _⟩

set_option maxRecDepth 8000 in
set_option maxHeartbeats 2000000 in
theorem r14_told_wrong {w0 w : World} {B c : Nat} {idle last : Int} {rs : List RC} {n : Int} {i : Nat} {r : RC} (page : Int) (vh : Value) (h : RTab w0 w B c idle last rs) (ha : RAt rs n i r) (hr : rightR r page = false) (he : 1 ≤ r.ends.length ∧ r.ends.length ≤ 1000) (hp : 0 ≤ page ∧ page < 4294967296) (hl : rs.length ≤ 1000) :
    Calls Try.prog 40 #[.pointer (some ⟨c, 0, none⟩), .int .u32 n, .int .u32 page, vh] w fun e w' => e = .returned (.tuple #[]) ∧ Kp (fun _ => False) w w' := by
  have hA := Lib.hid (r14_at h ha hl)
  obtain ⟨g, cap, v, a, y, z, ev, d1, hrd0, d2, -, hev, -⟩ := h.look' ha
  have hR := r14_right r v a y z ev page w hev he.1 he.2 hp
  rw [hr] at hR
  have hR := Lib.hid hR
  have hlt := ha.lt
  have hrd : rdAt w ⟨g, i * 12, none⟩ 12 = some #[.int .u32 r.n, .int .u64 r.owner, .int .i64 r.ask.pin, v, a, y, z, .bool r.ask.has, .int .i64 r.ask.ld, .int .u32 r.ask.li, ev, .int .u32 r.used] := hrd0
  clear h ha d2 hev hrd0 he hp hr
  go_enter Try.func40, Try.ntmps40
  go_wp2_with fail
  refine hA.out.mono ?_
  rintro e w1 ⟨rfl, rfl⟩
  clear hA
  go_wp2_with fail
  refine hR.out.mono ?_
  rintro e w1 ⟨rfl, k1⟩
  clear hR
  go_wp2_with fail
  refine bodyPost_ret (results_none rfl _ _ _) rfl ?_
  exact ⟨rfl, k1⟩

def newEnd (r : RC) (p : Nat) (hl : List (Int × Int)) : EndC := match hl.getLast? with | none => r.ends.getD p (false, 0, 0) | some x => (true, x.1, x.2)
def zE : Value := .agg #[.bool false, .int .i64 0, .int .u32 0]
theorem infoE : (Try.prog.info? 113).map (fun i => (i.zero, i.size, i.bytes)) = some (some zE, 3, 24) := by kernel_rfl

def RToldPost (w0 w : World) (B c : Nat) (idle last : Int) (rs : List RC) (i : Nat) (r : RC) (p : Nat) (hl : List (Int × Int)) (e : Ending) (w' : World) : Prop :=
  e = .returned (.tuple #[]) ∧ RTab w0 w' B c idle last (rs.set i { r with ends := r.ends.take (p + 1) ++ [newEnd r p hl] }) ∧ Kt B TR False w w'

/-- t.L[i].Ends = v. -/
theorem RTab.told {w0 w : World} {B c : Nat} {idle last : Int} {rs : List RC} {n : Int} {i : Nat} {r : RC} (h : RTab w0 w B c idle last rs) (ha : RAt rs n i r) {g cap : Nat} (hc1 : w.cell? ⟨c, 1, none⟩ = some (.slice (some ⟨g, 0, none⟩) rs.length cap)) {v : Value} {es : List EndC} (hE : EndsO w B v es) :
    RTab w0 (w.setCell ⟨g, i * 12 + 10, none⟩ v) B c idle last (rs.set i { r with ends := es }) ∧ Kt B TR False w (w.setCell ⟨g, i * 12 + 10, none⟩ v) := by
  obtain ⟨hc, v0, ms, p1, p2, p3⟩ := h
  obtain ⟨hk', v1, a, y, z, ev, e, h1, h2⟩ := p3.at ha.lt
  have hv := (p1.cell 1).symm.trans hc1
  simp only [List.getElem?_toArray, List.getElem?_cons_succ, List.getElem?_cons_zero, Option.some.injEq] at hv
  subst hv
  rw [← p3.1] at p2
  obtain ⟨q1, q2⟩ := p2.set i hk' 10 (by omega) v (by obtain ⟨_, _, rfl⟩ := RowsO.form hE; rfl)
  have kI := (Kt.refl (B := B) (T := fun t => t = 80) (M := False) w).grown p2.1 (Nat.le_refl _) rfl q2
  rw [ha.at_] at e h1 h2
  refine ⟨⟨hc, _, _, (by rw [p3.1]; exact p1.kt kI (by decide)), q1, ((p3.mono fun _ _ q => q.kt kI (by decide)).set ?_ i)⟩, kI.mono (Nat.le_refl _) (fun _ h => .inr h) id⟩
  refine ⟨v1, a, y, z, v, ?_, h1, hE.kt kI (by decide)⟩
  rw [e]
  rfl

theorem frozen_alloc2 (w : World) (o o' : Obj) {g j : Nat} (h : g < w.heap.size) : ((w.alloc o).alloc o').frozen? ⟨g, j, none⟩ = w.frozen? ⟨g, j, none⟩ := by
  have h1 := ((Below.refl _ w).alloc (Nat.le_refl _) o).alloc (by simp) o'
  exact h1.frozen (p := ⟨g, j, none⟩) h

set_option maxRecDepth 8000 in
set_option maxHeartbeats 4000000 in
theorem r14_told_ok {w0 w : World} {B c : Nat} {idle last : Int} {rs : List RC} {n : Int} {i : Nat} {r : RC} (p : Nat) (vh : Value) (hits : List (Int × Int)) (h : RTab w0 w B c idle last rs) (hB : B ≤ w.heap.size) (ha : RAt rs n i r) (hr : rightR r ((p : Int) + 1) = true) (he : 1 ≤ r.ends.length ∧ r.ends.length ≤ 1000) (hl : rs.length ≤ 1000)
    (hh : Hits2 w0 vh hits) (hw0 : Keeps w0 w) :
    Calls Try.prog 40 #[.pointer (some ⟨c, 0, none⟩), .int .u32 n, .int .u32 ((p : Int) + 1), vh] w (RToldPost w0 w B c idle last rs i r p hits) := by
  have hpl : p < r.ends.length := by
    unfold rightR at hr
    simp at hr
    omega
  have hp1000 : p < 1000 := by omega
  have hpm : p % 4294967296 = p := Nat.mod_eq_of_lt (by omega)
  have hpm2 : (p + 1) % 4294967296 = p + 1 := Nat.mod_eq_of_lt (by omega)
  have hp : 0 ≤ ((p : Int) + 1) ∧ ((p : Int) + 1) < 4294967296 := by omega
  have hA := Lib.hid (r14_at h ha hl)
  obtain ⟨g, cap, v, a, y, z, ev, d1, hrd0, d2, hask, hev, hgl0⟩ := h.look' ha
  have hR := r14_right r v a y z ev ((p : Int) + 1) w hev he.1 he.2 hp
  rw [hr] at hR
  have hR := Lib.hid hR
  have hlt := ha.lt
  obtain ⟨g3, cap3, rfl, -, hg3⟩ := RowsO.big hev (by simp; omega)
  rw [List.length_map] at *
  have hrd : rdAt w ⟨g, i * 12, none⟩ 12 = some #[.int .u32 r.n, .int .u64 r.owner, .int .i64 r.ask.pin, v, a, y, z, .bool r.ask.has, .int .i64 r.ask.ld, .int .u32 r.ask.li, .slice (some ⟨g3, 0, none⟩) r.ends.length cap3, .int .u32 r.used] := hrd0
  have d10 := (d2 10 (by omega)).trans (show _ = some (Value.slice (some ⟨g3, 0, none⟩) r.ends.length cap3) from rfl)
  have hH := Lib.hid h
  have haH := Lib.hid ha
  have hevH := Lib.hid hev
  have hcap3 : r.ends.length ≤ cap3 := by have := (RowsO.cap hev).2.1; simpa using this
  have hendv : ∀ m ∈ ((r.ends.take (p + 1)).map endV), m.length = 3 ∧ m.all (·.oneCell') = true := by
    intro m hm
    obtain ⟨x, _, rfl⟩ := List.mem_map.1 hm
    exact ⟨rfl, rfl⟩
  have hendvH := Lib.hid hendv
  clear hendv
  obtain ⟨hhA, hcap, rfl, hlc, hlm, hhr⟩ := hh
  have hlenh : hits.length ≤ 9223372036854775807 := by simp only [maxLen] at hlm; omega
  have hhrH := Lib.hid hhr
  clear hhr
  clear h ha d2 hev hrd0 he hp hr hlc hlm
  go_enter Try.func40, Try.ntmps40
  go_wp2_with fail
  refine hA.out.mono ?_
  rintro e w1 ⟨rfl, rfl⟩
  clear hA
  go_wp2_with fail
  refine hR.out.mono ?_
  rintro e w1 ⟨rfl, k1⟩
  clear hR hrd
  have c1 := k1.cell0 d1
  have c10 := k1.cell0 d10
  clear d1 d10
  have hev1 := RowsO.kp hevH.out k1
  have hnews := hev1.many (p + 1)
  have hnl := RowsO.take_len hev1 (p + 1) (by simp; omega)
  have hn1 := RowsO.all1 hev1 (p + 1)
  rw [← List.map_take] at hnews hnl hn1
  have hX := Lib.hid (And.intro hnl (And.intro hnews hn1))
  clear hnews hnl hn1 hev1
  obtain ⟨i0, hi0, hz0, hz1, hz2⟩ := info_parts infoE
  have hI := Lib.hid (And.intro hi0 (And.intro hz0 (And.intro hz1 hz2)))
  clear hi0 hz0 hz1 hz2
  have hB1 : B ≤ w1.heap.size := Nat.le_trans hB k1.size
  go_wp2_with (at_builtin; refine wpList_append_own_at (w := w1) rfl (.tmp 28) (.tmp 38) 78 rfl B 113 i0 zE 3 24 Try.underlying78 hI.out.1 hI.out.2.1 hI.out.2.2.1 hI.out.2.2.2 rfl (by omega) (.slice none 0 0) 0 [] rfl ⟨rfl, .inl ⟨rfl, rfl⟩⟩ ⟨g3, 0, none⟩ (p + 1) cap3 ((r.ends.take (p + 1)).map endV).flatten rfl hX.out.1 hX.out.2.1 hX.out.2.2 (by simp only [maxLen]; omega) (by omega) hB1 ?_)
  intro v2 w2 hown hg _ hat
  have hrow : RowsO 113 3 w2 B v2 ((r.ends.take (p + 1)).map endV) := RowsO.of_own (by simpa [Nat.min_eq_left (show p + 1 ≤ r.ends.length by omega)] using hown) hendvH.out
  have k2 : Kp (fun _ => False) w1 w2 := Kp.of_grown hg (fun k hk => by simp [Value.ownBlock] at hk)
  clear hown hX
  obtain ⟨g5, cap5, hv2, hg5B, hg5⟩ := hrow.big (by simp; omega)
  subst hv2
  have hlen5 : ((r.ends.take (p + 1)).map endV).length = p + 1 := by simp; omega
  rw [hlen5] at *
  obtain ⟨-, hec, -⟩ := RowsO.at hrow p (by simp; omega)
  have t0 := (hec 0 (by omega)).trans (show _ = some (Value.bool r.ends[p].1) by simp [endV])
  have t1 := (hec 1 (by omega)).trans (show _ = some (Value.int .i64 r.ends[p].2.1) by simp [endV])
  have t2 := (hec 2 (by omega)).trans (show _ = some (Value.int .u32 r.ends[p].2.2) by simp [endV])
  rw [Nat.add_zero] at t0
  have hrowH := Lib.hid hrow
  clear hec hrow hg hlen5
  have c1 := k2.cell0 c1
  have hcl : c < w2.heap.size := cell_block c1
  have c1n : ¬ c = w2.heap.size := by omega
  have g5n : ¬ g5 = w2.heap.size := by omega
  have c10 := k2.cell0 c10
  obtain ⟨-, cur, hgB⟩ := (hH.out.kp (k1.trans k2)).cells c1
  obtain ⟨-, cur5, hg5Bl⟩ := RowsO.blk hrowH.out
  have hgn5 : g ≠ g5 := hgB.ne hg5Bl (by decide)
  have hcn5 : c ≠ g5 := by
    obtain ⟨vt, hTb⟩ := (hH.out.kp (k1.trans k2)).blk
    exact hTb.ne hg5Bl (by decide)
  have hgl : g < w2.heap.size := hgB.lt
  have f10 := hgB.frozen (i * 12 + 10)
  clear hgB hg5Bl
  have hown5H := hrowH.out.1
  rw [show ((r.ends.take (p + 1)).map endV).length = p + 1 by simp; omega] at hown5H
  have hown5H := Lib.hid hown5H
  have hkw := Lib.hid (And.intro k1 k2)
  have kw0 := Lib.hid (k1.trans k2)
  have hfr : Hid (w.heap.size ≤ g5) := by
    unfold Hid
    have := k1.size
    rcases hat with h | h
    · simp [Value.ownBlock] at h
    · simp [Value.ownBlock] at h; omega
  clear hat
  by_cases hnil : hits = []
  · have hl0 : decide (0 < hits.length) = false := by simp [hnil]
    have hneH : Hid (newEnd r p hits = r.ends[p]) := by unfold Hid newEnd; rw [hnil]; simp [List.getD, hpl]
    clear hnil
    go_wp2_with fail
    have hTwH := Lib.hid (hH.out.kp (hkw.out.1.trans hkw.out.2))
    have hBl := Blk.new w2 #[.bool r.ends[p].1, .int .i64 r.ends[p].2.1, .int .u32 r.ends[p].2.2] 113
    have hBl2 := hBl.alloc (.cells #[.bool r.ends[p].1, .int .i64 r.ends[p].2.1, .int .u32 r.ends[p].2.2] 113)
    have hNew := Blk.new (w2.alloc (.cells #[.bool r.ends[p].1, .int .i64 r.ends[p].2.1, .int .u32 r.ends[p].2.2] 113)) #[.bool r.ends[p].1, .int .i64 r.ends[p].2.1, .int .u32 r.ends[p].2.2] 113
    rw [show (w2.alloc (.cells #[.bool r.ends[p].1, .int .i64 r.ends[p].2.1, .int .u32 r.ends[p].2.2] 113)).heap.size = w2.heap.size + 1 by simp] at hNew
    have hnews : ∀ j u, ([.bool r.ends[p].1, .int .i64 r.ends[p].2.1, .int .u32 r.ends[p].2.2] : List Value)[j]? = some u → ((w2.alloc (.cells #[.bool r.ends[p].1, .int .i64 r.ends[p].2.1, .int .u32 r.ends[p].2.2] 113)).alloc (.cells #[.bool r.ends[p].1, .int .i64 r.ends[p].2.1, .int .u32 r.ends[p].2.2] 113)).cell? ((⟨w2.heap.size + 1, 0, none⟩ : Addr).add j) = some u := by
      have := World.news_of_block (w := (w2.alloc (.cells #[.bool r.ends[p].1, .int .i64 r.ends[p].2.1, .int .u32 r.ends[p].2.2] 113)).alloc (.cells #[.bool r.ends[p].1, .int .i64 r.ends[p].2.1, .int .u32 r.ends[p].2.2] 113)) (B := w2.heap.size + 1) (cs := #[.bool r.ends[p].1, .int .i64 r.ends[p].2.1, .int .u32 r.ends[p].2.2]) (t := 113) (fr := (0, 0)) hNew
      simpa using this
    have hnewsH := Lib.hid hnews
    have h1H : Hid (∀ u ∈ ([.bool r.ends[p].1, .int .i64 r.ends[p].2.1, .int .u32 r.ends[p].2.2] : List Value), u.oneCell' = true) := by unfold Hid; intro u hu; simp at hu; rcases hu with rfl | rfl | rfl <;> rfl
    have hbase : B ≤ ((w2.alloc (.cells #[.bool r.ends[p].1, .int .i64 r.ends[p].2.1, .int .u32 r.ends[p].2.2] 113)).alloc (.cells #[.bool r.ends[p].1, .int .i64 r.ends[p].2.1, .int .u32 r.ends[p].2.2] 113)).drew.drew.heap.size := by simp; have := hg5; omega
    have hown5 := Lib.hid (((hown5H.out.alloc (.cells #[.bool r.ends[p].1, .int .i64 r.ends[p].2.1, .int .u32 r.ends[p].2.2] 113)).alloc (.cells #[.bool r.ends[p].1, .int .i64 r.ends[p].2.1, .int .u32 r.ends[p].2.2] 113)).drew.drew)
    have e1 := ((Keeps.alloc w2 (.cells #[.bool r.ends[p].1, .int .i64 r.ends[p].2.1, .int .u32 r.ends[p].2.2] 113)).trans (Keeps.alloc _ (.cells #[.bool r.ends[p].1, .int .i64 r.ends[p].2.1, .int .u32 r.ends[p].2.2] 113))) _ _ c1
    have e10 := ((Keeps.alloc w2 (.cells #[.bool r.ends[p].1, .int .i64 r.ends[p].2.1, .int .u32 r.ends[p].2.2] 113)).trans (Keeps.alloc _ (.cells #[.bool r.ends[p].1, .int .i64 r.ends[p].2.1, .int .u32 r.ends[p].2.2] 113))) _ _ c10
    have ef : ((w2.alloc (.cells #[.bool r.ends[p].1, .int .i64 r.ends[p].2.1, .int .u32 r.ends[p].2.2] 113)).alloc (.cells #[.bool r.ends[p].1, .int .i64 r.ends[p].2.1, .int .u32 r.ends[p].2.2] 113)).frozen? ⟨g, i * 12 + 10, none⟩ = false := by
      rw [frozen_alloc2 _ _ _ hgl, f10]
    have eH := Lib.hid (And.intro e1 (And.intro e10 ef))
    clear hnews hBl hBl2 hNew e1 e10 ef
    go_region_law
      ((refine step_append_lies _ (by rfl) _ _ _ (by rfl) B 113 i0 zE 3 24 Try.underlying78 hI.out.1 hI.out.2.1 hI.out.2.2.1 hI.out.2.2.2 rfl (by omega) (.slice (some ⟨g5, 0, none⟩) (p + 1) cap5) (p + 1) ((r.ends.take (p + 1)).map endV).flatten (by rfl) hown5.out ⟨w2.heap.size + 1, 0, none⟩ 1 1 [.bool r.ends[p].1, .int .i64 r.ends[p].2.1, .int .u32 r.ends[p].2.2] (by rfl) (by rfl) hnewsH.out h1H.out (by omega) (by simp only [maxLen]; omega) (by omega) hbase (w2.heap.size + 2) (by simp) ?_; intro gg capg w4 hown4 hgrow hat hlt4; have d1 := (hgrow.cell_far ⟨c, 1, none⟩ (by simp; omega) (fun e => hcn5 (by simp [Value.ownBlock] at e; first | exact e | exact e.symm))).trans eH.out.1; have d10 := (hgrow.cell_far ⟨g, i * 12 + 10, none⟩ (by simp; omega) (fun e => hgn5 (by simp [Value.ownBlock] at e; first | exact e | exact e.symm))).trans eH.out.2.1; have df := (hgrow.frozen_far ⟨g, i * 12 + 10, none⟩ (by simp; omega) (fun e => hgn5 (by simp [Value.ownBlock] at e; first | exact e | exact e.symm))).trans eH.out.2.2))
    all_goals
      have kW : Kp (fun _ => False) w w4 := by
        first
        | exact (((kw0.out.alloc _).alloc _).drew).then_ (Kp.of_grown (S := fun k => k = g5) hgrow (fun k hk => by simp [Value.ownBlock] at hk; exact hk.symm)) (fun k h1 h2 => by have := hfr.out; omega)
        | exact ((((kw0.out.alloc _).alloc _).drew).drew).then_ (Kp.of_grown (S := fun k => k = g5) hgrow (fun k hk => by simp [Value.ownBlock] at hk; exact hk.symm)) (fun k h1 h2 => by have := hfr.out; omega)
        | exact ((kw0.out.alloc _).alloc _).then_ (Kp.of_grown (S := fun k => k = g5) hgrow (fun k hk => by simp [Value.ownBlock] at hk; exact hk.symm)) (fun k h1 h2 => by have := hfr.out; omega)
        | exact (((((kw0.out.alloc _).alloc _).drew).drew).drew).then_ (Kp.of_grown (S := fun k => k = g5) hgrow (fun k hk => by simp [Value.ownBlock] at hk; exact hk.symm)) (fun k h1 h2 => by have := hfr.out; omega)
      have hE : EndsO w4 B (.slice (some ⟨gg, 0, none⟩) (p + 1 + 1) capg) (r.ends.take (p + 1) ++ [newEnd r p hits]) := by
        rw [hneH.out]
        unfold EndsO
        rw [List.map_append]
        have hn : ((r.ends.take (p + 1)).map endV).length = p + 1 := by simp; omega
        exact hrowH.out.push (by rw [hn]; exact hown4) rfl rfl
      have hfin := Lib.hid (RTab.told (hH.out.kp kW) haH.out d1 hE)
      have kWH := Lib.hid kW
      clear hE kW hown4 hgrow
      go_wp2_with fail
      go_end0
      exact ⟨rfl, hfin.out.1, (Kt.of_kp kWH.out).trans hfin.out.2⟩
  · have hl1 : 0 < hits.length := List.length_pos_iff.2 hnil
    have hl0 : decide (0 < hits.length) = true := by simp [hl1]
    obtain ⟨hb, hoff, hes, rfl, hesl, hhc, hhe⟩ := hhrH.out (hits.length - 1) (by omega)
    have hneH : Hid (newEnd r p hits = (true, hits[hits.length - 1].1, hits[hits.length - 1].2)) := by
      unfold Hid newEnd
      rw [List.getLast?_eq_getElem?]
      simp [show hits.length - 1 < hits.length by omega]
    subst hhe
    have j0 := (hhc 0 (by omega)).trans (show _ = some (Value.int .i64 hits[hits.length - 1].1) from rfl)
    have j1 := (hhc 1 (by omega)).trans (show _ = some (Value.int .u32 hits[hits.length - 1].2) from rfl)
    have jk : Keeps w0 w2 := (hw0.trans (Keeps.kp hkw.out.1)).trans (Keeps.kp hkw.out.2)
    rw [Nat.add_zero] at j0
    have j0 := jk _ _ j0
    have j1 := jk _ _ j1
    have hbl : hb < w2.heap.size := cell_block j0
    have hbn : ¬ hb = w2.heap.size := by omega
    clear hhc jk hnil
    go_wp2_with fail
    have hTwH := Lib.hid (hH.out.kp (hkw.out.1.trans hkw.out.2))
    have hBl := Blk.new w2 #[.bool true, .int .i64 hits[hits.length - 1].1, .int .u32 hits[hits.length - 1].2] 113
    have hBl2 := hBl.alloc (.cells #[.bool true, .int .i64 hits[hits.length - 1].1, .int .u32 hits[hits.length - 1].2] 113)
    have hNew := Blk.new (w2.alloc (.cells #[.bool true, .int .i64 hits[hits.length - 1].1, .int .u32 hits[hits.length - 1].2] 113)) #[.bool true, .int .i64 hits[hits.length - 1].1, .int .u32 hits[hits.length - 1].2] 113
    rw [show (w2.alloc (.cells #[.bool true, .int .i64 hits[hits.length - 1].1, .int .u32 hits[hits.length - 1].2] 113)).heap.size = w2.heap.size + 1 by simp] at hNew
    have hnews : ∀ j u, ([.bool true, .int .i64 hits[hits.length - 1].1, .int .u32 hits[hits.length - 1].2] : List Value)[j]? = some u → ((w2.alloc (.cells #[.bool true, .int .i64 hits[hits.length - 1].1, .int .u32 hits[hits.length - 1].2] 113)).alloc (.cells #[.bool true, .int .i64 hits[hits.length - 1].1, .int .u32 hits[hits.length - 1].2] 113)).cell? ((⟨w2.heap.size + 1, 0, none⟩ : Addr).add j) = some u := by
      have := World.news_of_block (w := (w2.alloc (.cells #[.bool true, .int .i64 hits[hits.length - 1].1, .int .u32 hits[hits.length - 1].2] 113)).alloc (.cells #[.bool true, .int .i64 hits[hits.length - 1].1, .int .u32 hits[hits.length - 1].2] 113)) (B := w2.heap.size + 1) (cs := #[.bool true, .int .i64 hits[hits.length - 1].1, .int .u32 hits[hits.length - 1].2]) (t := 113) (fr := (0, 0)) hNew
      simpa using this
    have hnewsH := Lib.hid hnews
    have h1H : Hid (∀ u ∈ ([.bool true, .int .i64 hits[hits.length - 1].1, .int .u32 hits[hits.length - 1].2] : List Value), u.oneCell' = true) := by unfold Hid; intro u hu; simp at hu; rcases hu with rfl | rfl | rfl <;> rfl
    have hbase : B ≤ ((w2.alloc (.cells #[.bool true, .int .i64 hits[hits.length - 1].1, .int .u32 hits[hits.length - 1].2] 113)).alloc (.cells #[.bool true, .int .i64 hits[hits.length - 1].1, .int .u32 hits[hits.length - 1].2] 113)).drew.drew.heap.size := by simp; have := hg5; omega
    have hown5 := Lib.hid (((hown5H.out.alloc (.cells #[.bool true, .int .i64 hits[hits.length - 1].1, .int .u32 hits[hits.length - 1].2] 113)).alloc (.cells #[.bool true, .int .i64 hits[hits.length - 1].1, .int .u32 hits[hits.length - 1].2] 113)).drew.drew)
    have e1 := ((Keeps.alloc w2 (.cells #[.bool true, .int .i64 hits[hits.length - 1].1, .int .u32 hits[hits.length - 1].2] 113)).trans (Keeps.alloc _ (.cells #[.bool true, .int .i64 hits[hits.length - 1].1, .int .u32 hits[hits.length - 1].2] 113))) _ _ c1
    have e10 := ((Keeps.alloc w2 (.cells #[.bool true, .int .i64 hits[hits.length - 1].1, .int .u32 hits[hits.length - 1].2] 113)).trans (Keeps.alloc _ (.cells #[.bool true, .int .i64 hits[hits.length - 1].1, .int .u32 hits[hits.length - 1].2] 113))) _ _ c10
    have ef : ((w2.alloc (.cells #[.bool true, .int .i64 hits[hits.length - 1].1, .int .u32 hits[hits.length - 1].2] 113)).alloc (.cells #[.bool true, .int .i64 hits[hits.length - 1].1, .int .u32 hits[hits.length - 1].2] 113)).frozen? ⟨g, i * 12 + 10, none⟩ = false := by
      rw [frozen_alloc2 _ _ _ hgl, f10]
    have eH := Lib.hid (And.intro e1 (And.intro e10 ef))
    clear hnews hBl hBl2 hNew e1 e10 ef
    go_region_law
      ((refine step_append_lies _ (by rfl) _ _ _ (by rfl) B 113 i0 zE 3 24 Try.underlying78 hI.out.1 hI.out.2.1 hI.out.2.2.1 hI.out.2.2.2 rfl (by omega) (.slice (some ⟨g5, 0, none⟩) (p + 1) cap5) (p + 1) ((r.ends.take (p + 1)).map endV).flatten (by rfl) hown5.out ⟨w2.heap.size + 1, 0, none⟩ 1 1 [.bool true, .int .i64 hits[hits.length - 1].1, .int .u32 hits[hits.length - 1].2] (by rfl) (by rfl) hnewsH.out h1H.out (by omega) (by simp only [maxLen]; omega) (by omega) hbase (w2.heap.size + 2) (by simp) ?_; intro gg capg w4 hown4 hgrow hat hlt4; have d1 := (hgrow.cell_far ⟨c, 1, none⟩ (by simp; omega) (fun e => hcn5 (by simp [Value.ownBlock] at e; first | exact e | exact e.symm))).trans eH.out.1; have d10 := (hgrow.cell_far ⟨g, i * 12 + 10, none⟩ (by simp; omega) (fun e => hgn5 (by simp [Value.ownBlock] at e; first | exact e | exact e.symm))).trans eH.out.2.1; have df := (hgrow.frozen_far ⟨g, i * 12 + 10, none⟩ (by simp; omega) (fun e => hgn5 (by simp [Value.ownBlock] at e; first | exact e | exact e.symm))).trans eH.out.2.2))
    all_goals
      have kW : Kp (fun _ => False) w w4 := by
        first
        | exact (((kw0.out.alloc _).alloc _).drew).then_ (Kp.of_grown (S := fun k => k = g5) hgrow (fun k hk => by simp [Value.ownBlock] at hk; exact hk.symm)) (fun k h1 h2 => by have := hfr.out; omega)
        | exact ((((kw0.out.alloc _).alloc _).drew).drew).then_ (Kp.of_grown (S := fun k => k = g5) hgrow (fun k hk => by simp [Value.ownBlock] at hk; exact hk.symm)) (fun k h1 h2 => by have := hfr.out; omega)
        | exact ((kw0.out.alloc _).alloc _).then_ (Kp.of_grown (S := fun k => k = g5) hgrow (fun k hk => by simp [Value.ownBlock] at hk; exact hk.symm)) (fun k h1 h2 => by have := hfr.out; omega)
        | exact (((((kw0.out.alloc _).alloc _).drew).drew).drew).then_ (Kp.of_grown (S := fun k => k = g5) hgrow (fun k hk => by simp [Value.ownBlock] at hk; exact hk.symm)) (fun k h1 h2 => by have := hfr.out; omega)
      have hE : EndsO w4 B (.slice (some ⟨gg, 0, none⟩) (p + 1 + 1) capg) (r.ends.take (p + 1) ++ [newEnd r p hits]) := by
        rw [hneH.out]
        unfold EndsO
        rw [List.map_append]
        have hn : ((r.ends.take (p + 1)).map endV).length = p + 1 := by simp; omega
        exact hrowH.out.push (by rw [hn]; exact hown4) rfl rfl
      have hfin := Lib.hid (RTab.told (hH.out.kp kW) haH.out d1 hE)
      have kWH := Lib.hid kW
      clear hE kW hown4 hgrow
      go_wp2_with fail
      go_end0
      exact ⟨rfl, hfin.out.1, (Kt.of_kp kWH.out).trans hfin.out.2⟩
end Go.Proofs.Ytcamhpjgpjihhaa

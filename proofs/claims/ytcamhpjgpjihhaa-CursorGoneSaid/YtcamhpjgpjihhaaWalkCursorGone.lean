/- CursorGone: there are at most so many cursors; one that is gone, by whichever way, is told as ErrCursor for ever: the walk. (Printed by gen_gone.py, a program of this session's own.) -/
import Derived.Test.YtcamhpjgpjihhaaCur14
namespace Go.Proofs.Ytcamhpjgpjihhaa
open Go.RowKit
attribute [local go_sem ↓] loadOp
attribute [local go_sem] isPtrA_ptr adrOf_ptr

def TG (t : TypeId) : Prop := TC t ∨ t = 41 ∨ t = 44 ∨ t = 4
theorem TC_TG {B : Nat} {w w' : World} (k : Kt B TC True w w') : Kt B TG True w w' := k.mono (Nat.le_refl _) (fun _ h => .inl h) id

structure GoneAt (w0 : World) (bt bm : Nat) (idle : Int) (m : Nat) (l : CurL) (os : List Int) (gs : List Bool) (v7 v8 v9 : Value) (wr : World) : Prop where
  tab : TabAt wr w0.heap.size bt bm idle m l
  inv : GoneInv l m os
  gl : gs.length = m
  gone : ∀ j : Nat, gs[j]? = some true → isIn l ((j : Int) + 1) = false
  r7 : OwnK wr w0.heap.size v7 (nums m)
  r8 : OwnU wr w0.heap.size v8 os
  r9 : OwnB wr w0.heap.size v9 gs
  kt : Kt w0.heap.size TG True w0 wr

theorem GoneAt.to {w0 w w' : World} {bt bm : Nat} {idle : Int} {m : Nat} {l l' : CurL} {os : List Int} {gs : List Bool} {v7 v8 v9 : Value} (h : GoneAt w0 bt bm idle m l os gs v7 v8 v9 w) (k : Kt w0.heap.size TC True w w') (hT : TabAt w' w0.heap.size bt bm idle m l') (hi : GoneInv l' m os) (hg : ∀ n, isIn l n = false → isIn l' n = false) : GoneAt w0 bt bm idle m l' os gs v7 v8 v9 w' :=
  ⟨hT, hi, h.gl, fun j hj => hg _ (h.gone j hj), OwnR.kt h.r7 k (by unfold TC; decide), OwnR.kt h.r8 k (by unfold TC; decide), OwnR.kt h.r9 k (by unfold TC; decide), h.kt.trans (TC_TG k)⟩
theorem GoneAt.kp {w0 w w' : World} {bt bm : Nat} {idle : Int} {m : Nat} {l : CurL} {os : List Int} {gs : List Bool} {v7 v8 v9 : Value} (h : GoneAt w0 bt bm idle m l os gs v7 v8 v9 w) (k : Kp (fun _ => False) w w') : GoneAt w0 bt bm idle m l os gs v7 v8 v9 w' :=
  h.to (Kt.of_kp k) (h.tab.kp k) h.inv fun _ h => h
theorem GoneAt.size {w0 w : World} {bt bm : Nat} {idle : Int} {m : Nat} {l : CurL} {os : List Int} {gs : List Bool} {v7 v8 v9 : Value} (h : GoneAt w0 bt bm idle m l os gs v7 v8 v9 w) : w0.heap.size ≤ w.heap.size := h.kt.size

def GnRel (w : World) (bt bm n : Nat) (idle : Int) (v6 v7 v8 v9 i : Value) (wr : World) : Prop :=
  ∃ (k m : Nat) (l : CurL) (os : List Int) (gs : List Bool) (t : Int), k ≤ n ∧ k ≤ 60 ∧ m ≤ k ∧ i = .int .i64 k ∧ v6 = .int .u32 t ∧ 0 ≤ t ∧ t < 4294967296 ∧ GoneAt w bt bm idle m l os gs v7 v8 v9 wr
def GnCut (w : World) (bt bm k : Nat) (idle : Int) (v7 v8 v9 : Value) (wr : World) : Prop :=
  ∃ (m : Nat) (l : CurL) (os : List Int) (gs : List Bool), m ≤ k + 1 ∧ GoneAt w bt bm idle m l os gs v7 v8 v9 wr

theorem delC_lt {l : CurL} {n0 : Int} {q : Nat × Cur} (h : (n0, q) ∈ l) : (delC l n0).length < l.length := by
  unfold delC
  rw [List.length_filter_lt_length_iff_exists]
  exact ⟨_, h, by simp⟩
def GnIn (w : World) (bt bm : Nat) (idle : Int) (m : Nat) (l : CurL) (os : List Int) (v7 v8 v9 : Value) (th j : Value) (wr : World) : Prop :=
  ∃ (k : Nat) (gs : List Bool), k ≤ m ∧ j = .int .i64 k ∧ th = .int .i64 (cntIn l k) ∧ GoneAt w bt bm idle m l os gs v7 v8 v9 wr
theorem gone_set {w0 W : World} {bt bm : Nat} {idle : Int} {m : Nat} {l : CurL} {os : List Int} {gs : List Bool} {v7 v8 : Value} {g9 j c9 : Nat} (h : GoneAt w0 bt bm idle m l os gs v7 v8 (.slice (some ⟨g9, 0, none⟩) m c9) W) (hj : j < m) (x : Bool) (hx : x = true → isIn l ((j : Int) + 1) = false) :
    GoneAt w0 bt bm idle m l os (gs.set j x) v7 v8 (.slice (some ⟨g9, 0, none⟩) m c9) (W.setCell ⟨g9, j, none⟩ (.bool x)) := by
  have hgl := h.gl
  have hr : W.ownsRow w0.heap.size 4 1 (.slice (some ⟨g9, 0, none⟩) m c9) m (gs.map fun b => .bool b) := by
    have := h.r9
    unfold OwnB OwnR at this
    rw [hgl] at this
    exact this
  obtain ⟨s1, s2⟩ := hr.stored j (.bool x)
  have kI := (Kt.refl (B := 0) (T := fun t => t = 4) (M := False) W).grown hr (Nat.zero_le _) rfl s2
  refine ⟨h.tab.kt kI (by decide) (by decide) (by decide) (by decide) id, h.inv, by simp [hgl], fun p hp => ?_, OwnR.kt h.r7 kI (by decide), OwnR.kt h.r8 kI (by decide), ?_, h.kt.grown hr (Nat.le_refl _) (.inr (.inr (.inr rfl))) s2⟩
  · by_cases hpj : p = j
    · subst hpj
      rw [List.getElem?_set_self (by omega)] at hp
      exact hx (by simpa using hp)
    · rw [List.getElem?_set_ne (Ne.symm hpj)] at hp
      exact h.gone p hp
  · unfold OwnB OwnR
    rw [List.map_set, List.length_set, hgl]
    exact s1
theorem gone_cell {w0 wr W : World} {bt bm : Nat} {idle : Int} {m : Nat} {l : CurL} {os : List Int} {gs : List Bool} {v7 v8 : Value} {g9 c9 : Nat} (h : GoneAt w0 bt bm idle m l os gs v7 v8 (.slice (some ⟨g9, 0, none⟩) m c9) W) {j : Nat} {v : Value} (d9 : wr.cell? ⟨g9, j, none⟩ = some v) (k : Kp (fun _ => False) wr W) (hg : g9 < wr.heap.size) (j' : Nat) :
    W.cell? ⟨g9, j, none⟩ = some v ∧ W.frozen? ⟨g9, j', none⟩ = false ∧ g9 < W.heap.size ∧ ¬ g9 = W.heap.size := by
  have hr : W.ownsRow w0.heap.size 4 1 (.slice (some ⟨g9, 0, none⟩) m c9) m (gs.map fun b => .bool b) := by
    have := h.r9
    unfold OwnB OwnR at this
    rw [h.gl] at this
    exact this
  have hl := Nat.lt_of_lt_of_le hg k.size
  exact ⟨k.cell0 d9, hr.frozenAt j', hl, by omega⟩
theorem zask_cells {wr W : World} {g9 : Nat} (k : Kp (fun _ => False) (wr.alloc (.cells zAsk 49)).drew W) (hg : g9 < wr.heap.size) :
    W.cell? ⟨wr.heap.size, 0, none⟩ = some (.int .i64 0) ∧ W.cell? ⟨wr.heap.size, 1, none⟩ = some (.slice none 0 0) ∧ W.cell? ⟨wr.heap.size, 2, none⟩ = some (.slice none 0 0) ∧ W.cell? ⟨wr.heap.size, 3, none⟩ = some (.slice none 0 0) ∧ W.cell? ⟨wr.heap.size, 4, none⟩ = some (.slice none 0 0) ∧ W.cell? ⟨wr.heap.size, 5, none⟩ = some (.bool false) ∧ W.cell? ⟨wr.heap.size, 6, none⟩ = some (.int .i64 0) ∧ W.cell? ⟨wr.heap.size, 7, none⟩ = some (.int .u32 0) ∧ (∀ j, W.frozen? ⟨wr.heap.size, j, none⟩ = false) ∧ wr.heap.size < W.heap.size ∧ ¬ g9 = wr.heap.size := by
  have HB := Blk.kp (Blk.drew (Blk.new wr zAsk 49)) k id
  exact ⟨(HB.cell 0).trans rfl, (HB.cell 1).trans rfl, (HB.cell 2).trans rfl, (HB.cell 3).trans rfl, (HB.cell 4).trans rfl, (HB.cell 5).trans rfl, (HB.cell 6).trans rfl, (HB.cell 7).trans rfl, fun j => HB.frozen j, HB.lt, by omega⟩
theorem wrap64_in' {n : Int} (h : -9223372036854775808 ≤ n ∧ n ≤ 9223372036854775807) : wrap64 n = n := by unfold wrap64; omega
theorem zcells {wr W : World} {v0 v1 v2 v3 v4 v5 v6 v7 : Value} (q : Kp (fun _ => False) wr W) : Kp (fun _ => False) wr ((((((((W.setCell ⟨wr.heap.size, 0, none⟩ v0).setCell ⟨wr.heap.size, 1, none⟩ v1).setCell ⟨wr.heap.size, 2, none⟩ v2).setCell ⟨wr.heap.size, 3, none⟩ v3).setCell ⟨wr.heap.size, 4, none⟩ v4).setCell ⟨wr.heap.size, 5, none⟩ v5).setCell ⟨wr.heap.size, 6, none⟩ v6).setCell ⟨wr.heap.size, 7, none⟩ v7) :=
  (((((((q.setCell (fun h => absurd h (Nat.lt_irrefl _)) _).setCell (fun h => absurd h (Nat.lt_irrefl _)) _).setCell (fun h => absurd h (Nat.lt_irrefl _)) _).setCell (fun h => absurd h (Nat.lt_irrefl _)) _).setCell (fun h => absurd h (Nat.lt_irrefl _)) _).setCell (fun h => absurd h (Nat.lt_irrefl _)) _).setCell (fun h => absurd h (Nat.lt_irrefl _)) _).setCell (fun h => absurd h (Nat.lt_irrefl _)) _
theorem gone_alloc {w0 W : World} {bt bm : Nat} {idle : Int} {m : Nat} {l : CurL} {os : List Int} {gs : List Bool} {v7 v8 v9 : Value} (h : GoneAt w0 bt bm idle m l os gs v7 v8 v9 W) (o : Obj) : GoneAt w0 bt bm idle m l os gs v7 v8 v9 (W.alloc o) :=
  h.kp ((Kp.refl _ _).alloc _)
theorem cntIn_le (l : CurL) (k : Nat) : cntIn l k ≤ k := by
  unfold cntIn
  exact Nat.le_trans (List.length_filter_le _ _) (by simp)
theorem nums_succ (m : Nat) : nums (m + 1) = nums m ++ [(m : Int) + 1] := by simp [nums, List.range_succ]
theorem infoU64 : (Try.prog.info? 44).map (fun i => (i.zero, i.size, i.bytes)) = some (some (.int .u64 0), 1, 8) := by kernel_rfl
theorem infoBool : (Try.prog.info? 4).map (fun i => (i.zero, i.size, i.bytes)) = some (some (.bool false), 1, 1) := by kernel_rfl

set_option maxRecDepth 8000 in
set_option maxHeartbeats 8000000 in
theorem cursorGone_walk (v0 v1 : Value) (w : World) (h0 : Came Try.prog w 66 v0) (h1 : Came Try.prog w 41 v1) :
    Calls Try.prog 14 #[v0, v1] w fun e w' => e = .returned (.bool true) ∧ Below w.heap.size w w' := by
  obtain ⟨idle, rfl, -⟩ := Came.int Try.underlying41 h1
  obtain ⟨ol, A, cap, rfl, hlc, hlm, hrow⟩ := came_ops h0
  have hlen : ol.length ≤ 9223372036854775807 := by simp only [maxLen] at hlm; omega
  have hrow := Lib.hid hrow
  clear h0 h1 hlc hlm
  go_enter Try.func14, Try.ntmps14
  go_wp2_with fail
  refine (cursor_alive _).mono ?_
  rintro e w1 ⟨rfl, k1⟩
  have hB1 : w.heap.size ≤ w1.heap.size := k1.size
  go_wp2_with fail
  refine (tab_new idle w1 w.heap.size hB1).mono ?_
  rintro e w2 ⟨bt, bm, rfl, hT, k2⟩
  have hG : GoneAt w bt bm idle 0 [] [] [] (.slice none 0 0) (.slice none 0 0) (.slice none 0 0) w2 :=
    ⟨hT, ⟨by simp [RiseC], by simp, by simp, by simp, by simp, by simp, rfl⟩, rfl, fun j h => by simp at h, OwnR.nil _ _ _ _, OwnR.nil _ _ _ _, OwnR.nil _ _ _ _, Kt.of_kp (k1.trans k2)⟩
  clear hT k1 k2
  go_wp2_with fail
  go_loopw [6, 7, 8, 9, 10] (fun v6 v7 v8 v9 i wr => GnRel w bt bm ol.length idle v6 v7 v8 v9 i wr) (fun _ _ _ _ i _ => ol.length - (intOf i).toNat)
  case atStart => exact ⟨0, 0, [], [], [], 0, by omega, by omega, by omega, rfl, rfl, by omega, by omega, hG⟩
  case round =>
    clear hG
    obtain ⟨k, m, l, os, gs, t, hk, hk60, hmk, rfl, rfl, ht0, ht1, hG⟩ := hrel
    by_cases hlt : k < ol.length ∧ k < 60
    · obtain ⟨hl1, hl2⟩ := hlt
      obtain ⟨ob, off, es, rfl, hesl, hcc, hop⟩ := hrow.out k hl1
      have hrd0 : rdAt w ⟨ob, off + k * 12, none⟩ 12 = some es.toArray := rdAt_rowN hesl hcc
      generalize ol[k] = o at *
      obtain ⟨xvA, xvc, xaA, xac, xyA, xyc, xnA, xnc, xhA, xhc, rfl, hov, hoa, hoy, hon, hoh, hob⟩ := hop
      have hob2 : ob < w.heap.size := cell_block ((hcc 0 (by omega)).trans rfl)
      have hrd : rdAt wr ⟨ob, off + k * 12, none⟩ 12 = some #[.int .u8 o.kind, .int .u8 o.owner, .int .i64 o.pin, .slice xvA o.vec.length xvc, .slice xaA o.al.length xac, .slice xyA o.an.length xyc, .slice xnA o.no.length xnc, .int .u32 o.n, .int .u32 o.page, .slice xhA o.hits.length xhc, .bool o.tell, .int .u32 o.ahead] := rdAt_below hrd0 (hG.kt.below (Nat.le_refl _)) hob2
      have hl60 : decide ((k : Int) < 60) = true := decide_eq_true (by omega)
      have hX := Lib.hid (And.intro hov (And.intro hoa (And.intro hoy (And.intro hon hob))))
      have hbel := Lib.hid (fun (w' : World) (q : Kt w.heap.size TG True w w') => Keeps.below (q.below (Nat.le_refl _)))
      have hvl : o.vec.length ≤ 9223372036854775807 := by
        obtain ⟨_, _, e, h1, h2, _⟩ := hov.one
        simp only [maxLen] at h2
        omega
      have kA := ((Kp.refl (fun _ => False) wr).alloc (.cells #[.int .u8 o.kind, .int .u8 o.owner, .int .i64 o.pin, .slice xvA o.vec.length xvc, .slice xaA o.al.length xac, .slice xyA o.an.length xyc, .slice xnA o.no.length xnc, .int .u32 o.n, .int .u32 o.page, .slice xhA o.hits.length xhc, .bool o.tell, .int .u32 o.ahead] 72)).alloc (.cells #[.int .u32 0, .slice xvA o.vec.length xvc, .slice none 0 0] 75)
      have hGA := hG.kp kA
      have hGr := Lib.hid (great10 (vn := o.vec.length) (Blk.new (wr.alloc (.cells #[.int .u8 o.kind, .int .u8 o.owner, .int .i64 o.pin, .slice xvA o.vec.length xvc, .slice xaA o.al.length xac, .slice xyA o.an.length xyc, .slice xnA o.no.length xnc, .int .u32 o.n, .int .u32 o.page, .slice xhA o.hits.length xhc, .bool o.tell, .int .u32 o.ahead] 72)) #[.int .u32 0, .slice xvA o.vec.length xvc, .slice none 0 0] 75) hvl (hoa.keeps (hbel.out _ hGA.kt)) (hoy.keeps (hbel.out _ hGA.kt)) (hon.keeps (hbel.out _ hGA.kt)))
      rw [show (wr.alloc (.cells #[.int .u8 o.kind, .int .u8 o.owner, .int .i64 o.pin, .slice xvA o.vec.length xvc, .slice xaA o.al.length xac, .slice xyA o.an.length xyc, .slice xnA o.no.length xnc, .int .u32 o.n, .int .u32 o.page, .slice xhA o.hits.length xhc, .bool o.tell, .int .u32 o.ahead] 72)).heap.size = wr.heap.size + 1 by simp] at hGr
      have hO := (Blk.new wr #[.int .u8 o.kind, .int .u8 o.owner, .int .i64 o.pin, .slice xvA o.vec.length xvc, .slice xaA o.al.length xac, .slice xyA o.an.length xyc, .slice xnA o.no.length xnc, .int .u32 o.n, .int .u32 o.page, .slice xhA o.hits.length xhc, .bool o.tell, .int .u32 o.ahead] 72).alloc (.cells #[.int .u32 0, .slice xvA o.vec.length xvc, .slice none 0 0] 75)
      have hGA := Lib.hid hGA
      clear hcc hrd0 hov hoa hoy hon hoh hob hG hob2 kA
      go_wp2_with fail
      refine hGr.out.mono ?_
      rintro e w4 ⟨q, rfl, hsm, k4⟩
      have hG := hGA.out.kp k4
      have hO := hO.kp k4 id
      cases q
      case true =>
        go_wp2_with fail
        go_ret
        exact ⟨rfl, hG.kt.below (Nat.le_refl _)⟩
      have hsmH := Lib.hid (hsm (by trivial))
      clear hsm
      generalize wr.heap.size = bo at *
      clear hGr hGA k4 hrd
      have o0 : w4.cell? ⟨bo, 0, none⟩ = some (.int .u8 o.kind) := (hO.cell 0).trans rfl
      have o1 : w4.cell? ⟨bo, 1, none⟩ = some (.int .u8 o.owner) := (hO.cell 1).trans rfl
      have o2 : w4.cell? ⟨bo, 2, none⟩ = some (.int .i64 o.pin) := (hO.cell 2).trans rfl
      have o3 : w4.cell? ⟨bo, 3, none⟩ = some (.slice xvA o.vec.length xvc) := (hO.cell 3).trans rfl
      have o4 : w4.cell? ⟨bo, 4, none⟩ = some (.slice xaA o.al.length xac) := (hO.cell 4).trans rfl
      have o5 : w4.cell? ⟨bo, 5, none⟩ = some (.slice xyA o.an.length xyc) := (hO.cell 5).trans rfl
      have o6 : w4.cell? ⟨bo, 6, none⟩ = some (.slice xnA o.no.length xnc) := (hO.cell 6).trans rfl
      have o7 : w4.cell? ⟨bo, 7, none⟩ = some (.int .u32 o.n) := (hO.cell 7).trans rfl
      have o11 : w4.cell? ⟨bo, 11, none⟩ = some (.int .u32 o.ahead) := (hO.cell 11).trans rfl
      obtain ⟨ow, how⟩ : ∃ ow, IntKind.u64.wrap (o.owner.tmod 3) = ow := ⟨_, rfl⟩
      obtain ⟨t', ht'⟩ : ∃ t', IntKind.u32.wrap (t + o.ahead) = t' := ⟨_, rfl⟩
      have htb : Hid (0 ≤ t' ∧ t' < 4294967296) := by
        unfold Hid
        rw [← ht', show IntKind.u32.wrap (t + o.ahead) = (t + o.ahead) % 4294967296 from rfl]
        omega
      obtain ⟨kd, hkd⟩ : ∃ kd, o.kind.tmod 6 = kd := ⟨_, rfl⟩
      go_upto_block 2 with fail
      go_cut [7, 8, 9] (fun v7 v8 v9 wx => GnCut w bt bm k idle v7 v8 v9 wx)
      case first =>
        have hbd := hX.out.2.2.2.2
        have harg := Lib.hid (fun (w' : World) (q : Kt w.heap.size TC True w4 w') => (⟨_, _, _, _, rfl, hX.out.1.keeps (hbel.out _ (hG.kt.trans (TC_TG q))), hX.out.2.1.keeps (hbel.out _ (hG.kt.trans (TC_TG q))), hX.out.2.2.1.keeps (hbel.out _ (hG.kt.trans (TC_TG q))), hX.out.2.2.2.1.keeps (hbel.out _ (hG.kt.trans (TC_TG q)))⟩ : AskR w' [.int .i64 o.pin, .slice xvA o.vec.length xvc, .slice xaA o.al.length xac, .slice xyA o.an.length xyc, .slice xnA o.no.length xnc, .bool false, .int .i64 0, .int .u32 0] ⟨o.pin, o.vec, o.al, o.an, o.no, false, 0, 0⟩))
        have hsmall : Hid ((AskC.mk o.pin o.vec o.al o.an o.no false 0 0).small) := by
          obtain ⟨h1, h2, h3, h4⟩ := hsmH.out
          exact ⟨by show o.vec.length ≤ _; omega, by show o.al.length ≤ _; omega, by show o.an.length ≤ _; omega, by show o.no.length ≤ _; omega⟩
        have hBw : w.heap.size ≤ w4.heap.size := hG.size
        have hm60 : (m : Int) < 4294967295 := by omega
        have hkd6 : kd = 0 ∨ kd = 1 ∨ kd = 2 ∨ kd = 3 ∨ kd = 4 ∨ kd = 5 := by
          rw [← hkd]
          obtain ⟨⟨h1, h2⟩, _⟩ := hbd
          rw [Int.tmod_eq_emod_of_nonneg h1]
          omega
        have hgl := Lib.hid hG.gl
        have hosl := Lib.hid hG.inv.osl
        clear hX hsmH hbel hkd how hvl hO hl60
        have hopen : kd = 0 ∨ kd = 1 ∨ kd = 2 → Hid (((kd == 0) = true) ∨ ((kd == 0) = false ∧ (kd == 1) = true) ∨ ((kd == 0) = false ∧ (kd == 1) = false ∧ (kd == 2) = true)) := by
          rintro (rfl | rfl | rfl)
          · exact .inl rfl
          · exact .inr (.inl ⟨rfl, rfl⟩)
          · exact .inr (.inr ⟨rfl, rfl, rfl⟩)
        by_cases hko : kd = 0 ∨ kd = 1 ∨ kd = 2
        · have hko2 := hopen hko
          clear hopen hko hkd6 hbd
          by_cases hl8 : l.length < 8
          · have hO := Lib.hid (open_room ow o.pin t' _ _ _ _ o.vec o.al o.an o.no hG.tab hBw hl8 (fun p hp => (hG.inv.key p hp).2) (by omega) hm60 harg.out hsmall.out)
            have hinv := Lib.hid (fun (b : Nat) => hG.inv.add (b := b) (c := newCur ow o.pin o.vec o.al o.an o.no t') hl8 rfl htb.out.1)
            have hgone : Hid (∀ (b : Nat) (j : Nat), (gs ++ [false])[j]? = some true → isIn (l ++ [((m : Int) + 1, b, newCur ow o.pin o.vec o.al o.an o.no t')]) ((j : Int) + 1) = false) := by
              intro b j hj
              have hjm : j < m := by
                rcases Nat.lt_trichotomy j m with h | h | h
                · exact h
                · rw [h, ← hgl.out] at hj; simp at hj
                · rw [List.getElem?_eq_none (by have := hgl.out; simp; omega)] at hj; cases hj
              rw [List.getElem?_append_left (by have := hgl.out; omega)] at hj
              exact isIn_add (hG.gone j hj) (by omega)
            rcases hko2.out with e0 | ⟨e0, e1⟩ | ⟨e0, e1, e2⟩
            all_goals
              obtain ⟨tab, inv, gl, gone, r7, r8, r9, kt⟩ := hG
              clear tab inv gl gone
              go_wp2_with fail
              refine hO.out.mono ?_
              rintro e w5 ⟨b, rfl, hT5, k5⟩
              have kt5 := kt.trans (TC_TG k5)
              have r7 := OwnR.kt r7 k5 (by unfold TC; decide)
              have r8 := OwnR.kt r8 k5 (by unfold TC; decide)
              have r9 := OwnR.kt r9 k5 (by unfold TC; decide)
              have hinv := Lib.hid (hinv.out b)
              have hgone := Lib.hid (hgone.out b)
              clear hO k5 kt harg
              have hB5 : w.heap.size ≤ w5.heap.size := kt5.size
              obtain ⟨A7, c7, rfl⟩ := OwnR.form r7
              have ho1 : ∀ u ∈ (#[Value.int .u32 ((m : Int) + 1)] : Array Value).toList, u.oneCell' = true := by simp [Value.oneCell']
              have rl7 : Hid ((nums m).length = m) := by first | exact hgl | exact hosl | (unfold Hid; simp [nums])
              go_wp2_with (at_builtin; refine wp_append1 (W := w5) w.heap.size rfl (.tmp 75) (.tmp 77) 56 41 (.int .u32 0) 1 4 rfl Try.underlying56 infoK rfl (by decide) _ (nums m).length _ #[.int .u32 ((m : Int) + 1)] rfl rfl rfl ho1 r7 hB5 (by have := rl7.out; omega) (by have := rl7.out; omega) ?_)
              intro v7' w6 hown hg _
              have kI := (Kt.refl (B := 0) (T := fun t => t = 41) (M := False) w5).grown r7 (Nat.zero_le _) rfl hg
              have hT5 := hT5.kt kI (by decide) (by decide) (by decide) (by decide) id
              have kt5 := kt5.grown r7 (Nat.le_refl _) (.inr (.inl rfl)) hg
              have r8 := OwnR.kt r8 kI (by decide)
              have r9 := OwnR.kt r9 kI (by decide)
              have r7 : OwnK w6 w.heap.size v7' (nums m ++ [(m : Int) + 1]) := by unfold OwnK OwnR; simpa using hown
              have hB5 : w.heap.size ≤ w6.heap.size := kt5.size
              clear hown hg kI ho1 rl7
              obtain ⟨A8, c8, rfl⟩ := OwnR.form r8
              have ho1 : ∀ u ∈ (#[Value.int .u64 ow] : Array Value).toList, u.oneCell' = true := by simp [Value.oneCell']
              have rl8 : Hid ((os).length = m) := by first | exact hgl | exact hosl | (unfold Hid; simp [nums])
              go_wp2_with (at_builtin; refine wp_append1 (W := w6) w.heap.size rfl (.tmp 79) (.tmp 81) 86 44 (.int .u64 0) 1 8 rfl Try.underlying86 infoU64 rfl (by decide) _ (os).length _ #[.int .u64 ow] rfl rfl rfl ho1 r8 hB5 (by have := rl8.out; omega) (by have := rl8.out; omega) ?_)
              intro v8' w7 hown hg _
              have kI := (Kt.refl (B := 0) (T := fun t => t = 44) (M := False) w6).grown r8 (Nat.zero_le _) rfl hg
              have hT5 := hT5.kt kI (by decide) (by decide) (by decide) (by decide) id
              have kt5 := kt5.grown r8 (Nat.le_refl _) (.inr (.inr (.inl rfl))) hg
              have r7 := OwnR.kt r7 kI (by decide)
              have r9 := OwnR.kt r9 kI (by decide)
              have r8 : OwnU w7 w.heap.size v8' (os ++ [ow]) := by unfold OwnU OwnR; simpa using hown
              have hB5 : w.heap.size ≤ w7.heap.size := kt5.size
              clear hown hg kI ho1 rl8
              obtain ⟨A9, c9, rfl⟩ := OwnR.form r9
              have ho1 : ∀ u ∈ (#[Value.bool false] : Array Value).toList, u.oneCell' = true := by simp [Value.oneCell']
              have rl9 : Hid ((gs).length = m) := by first | exact hgl | exact hosl | (unfold Hid; simp [nums])
              go_wp2_with (at_builtin; refine wp_append1 (W := w7) w.heap.size rfl (.tmp 83) (.tmp 84) 87 4 (.bool false) 1 1 rfl Try.underlying87 infoBool rfl (by decide) _ (gs).length _ #[.bool false] rfl rfl rfl ho1 r9 hB5 (by have := rl9.out; omega) (by have := rl9.out; omega) ?_)
              intro v9' w8 hown hg _
              have kI := (Kt.refl (B := 0) (T := fun t => t = 4) (M := False) w7).grown r9 (Nat.zero_le _) rfl hg
              have hT5 := hT5.kt kI (by decide) (by decide) (by decide) (by decide) id
              have kt5 := kt5.grown r9 (Nat.le_refl _) (.inr (.inr (.inr rfl))) hg
              have r7 := OwnR.kt r7 kI (by decide)
              have r8 := OwnR.kt r8 kI (by decide)
              have r9 : OwnB w8 w.heap.size v9' (gs ++ [false]) := by unfold OwnB OwnR; simpa using hown
              have hB5 : w.heap.size ≤ w8.heap.size := kt5.size
              clear hown hg kI ho1 rl9
              go_wp2_with fail
              go_meet
              exact ⟨m + 1, _, _, _, by omega, hT5, hinv.out, by simp [hgl.out], hgone.out, by rw [nums_succ]; exact r7, r8, r9, kt5⟩
          · have hO := Lib.hid (open_full ow o.pin t' _ _ _ _ o.vec o.al o.an o.no hG.tab hBw (by omega) (fun p hp => hG.inv.key p hp) (by omega) hm60 harg.out hsmall.out)
            have hinv := Lib.hid (fun (n0 : Int) (b0 : Nat) (c0 : Cur) (b : Nat) (he : IsEld l n0 b0 c0) => (hG.inv.filter fun p => decide (p.1 ≠ n0)).add (b := b) (c := newCur ow o.pin o.vec o.al o.an o.no t') (by have := delC_lt he.1; have := hG.inv.len; unfold delC at *; omega) rfl htb.out.1)
            have hgone : Hid (∀ (n0 : Int) (b : Nat) (j : Nat), (gs ++ [false])[j]? = some true → isIn (delC l n0 ++ [((m : Int) + 1, b, newCur ow o.pin o.vec o.al o.an o.no t')]) ((j : Int) + 1) = false) := by
              intro n0 b j hj
              have hjm : j < m := by
                rcases Nat.lt_trichotomy j m with h | h | h
                · exact h
                · rw [h, ← hgl.out] at hj; simp at hj
                · rw [List.getElem?_eq_none (by have := hgl.out; simp; omega)] at hj; cases hj
              rw [List.getElem?_append_left (by have := hgl.out; omega)] at hj
              exact isIn_add (isIn_filter (hG.gone j hj)) (by omega)
            rcases hko2.out with e0 | ⟨e0, e1⟩ | ⟨e0, e1, e2⟩
            all_goals
              obtain ⟨tab, inv, gl, gone, r7, r8, r9, kt⟩ := hG
              clear tab inv gl gone
              go_wp2_with fail
              refine hO.out.mono ?_
              rintro e w5 ⟨n0, b0, c0, b, he, rfl, hT5, k5⟩
              have kt5 := kt.trans (TC_TG k5)
              have r7 := OwnR.kt r7 k5 (by unfold TC; decide)
              have r8 := OwnR.kt r8 k5 (by unfold TC; decide)
              have r9 := OwnR.kt r9 k5 (by unfold TC; decide)
              have hinv := Lib.hid (hinv.out n0 b0 c0 b he)
              have hgone := Lib.hid (hgone.out n0 b)
              clear he
              clear hO k5 kt harg
              have hB5 : w.heap.size ≤ w5.heap.size := kt5.size
              obtain ⟨A7, c7, rfl⟩ := OwnR.form r7
              have ho1 : ∀ u ∈ (#[Value.int .u32 ((m : Int) + 1)] : Array Value).toList, u.oneCell' = true := by simp [Value.oneCell']
              have rl7 : Hid ((nums m).length = m) := by first | exact hgl | exact hosl | (unfold Hid; simp [nums])
              go_wp2_with (at_builtin; refine wp_append1 (W := w5) w.heap.size rfl (.tmp 75) (.tmp 77) 56 41 (.int .u32 0) 1 4 rfl Try.underlying56 infoK rfl (by decide) _ (nums m).length _ #[.int .u32 ((m : Int) + 1)] rfl rfl rfl ho1 r7 hB5 (by have := rl7.out; omega) (by have := rl7.out; omega) ?_)
              intro v7' w6 hown hg _
              have kI := (Kt.refl (B := 0) (T := fun t => t = 41) (M := False) w5).grown r7 (Nat.zero_le _) rfl hg
              have hT5 := hT5.kt kI (by decide) (by decide) (by decide) (by decide) id
              have kt5 := kt5.grown r7 (Nat.le_refl _) (.inr (.inl rfl)) hg
              have r8 := OwnR.kt r8 kI (by decide)
              have r9 := OwnR.kt r9 kI (by decide)
              have r7 : OwnK w6 w.heap.size v7' (nums m ++ [(m : Int) + 1]) := by unfold OwnK OwnR; simpa using hown
              have hB5 : w.heap.size ≤ w6.heap.size := kt5.size
              clear hown hg kI ho1 rl7
              obtain ⟨A8, c8, rfl⟩ := OwnR.form r8
              have ho1 : ∀ u ∈ (#[Value.int .u64 ow] : Array Value).toList, u.oneCell' = true := by simp [Value.oneCell']
              have rl8 : Hid ((os).length = m) := by first | exact hgl | exact hosl | (unfold Hid; simp [nums])
              go_wp2_with (at_builtin; refine wp_append1 (W := w6) w.heap.size rfl (.tmp 79) (.tmp 81) 86 44 (.int .u64 0) 1 8 rfl Try.underlying86 infoU64 rfl (by decide) _ (os).length _ #[.int .u64 ow] rfl rfl rfl ho1 r8 hB5 (by have := rl8.out; omega) (by have := rl8.out; omega) ?_)
              intro v8' w7 hown hg _
              have kI := (Kt.refl (B := 0) (T := fun t => t = 44) (M := False) w6).grown r8 (Nat.zero_le _) rfl hg
              have hT5 := hT5.kt kI (by decide) (by decide) (by decide) (by decide) id
              have kt5 := kt5.grown r8 (Nat.le_refl _) (.inr (.inr (.inl rfl))) hg
              have r7 := OwnR.kt r7 kI (by decide)
              have r9 := OwnR.kt r9 kI (by decide)
              have r8 : OwnU w7 w.heap.size v8' (os ++ [ow]) := by unfold OwnU OwnR; simpa using hown
              have hB5 : w.heap.size ≤ w7.heap.size := kt5.size
              clear hown hg kI ho1 rl8
              obtain ⟨A9, c9, rfl⟩ := OwnR.form r9
              have ho1 : ∀ u ∈ (#[Value.bool false] : Array Value).toList, u.oneCell' = true := by simp [Value.oneCell']
              have rl9 : Hid ((gs).length = m) := by first | exact hgl | exact hosl | (unfold Hid; simp [nums])
              go_wp2_with (at_builtin; refine wp_append1 (W := w7) w.heap.size rfl (.tmp 83) (.tmp 84) 87 4 (.bool false) 1 1 rfl Try.underlying87 infoBool rfl (by decide) _ (gs).length _ #[.bool false] rfl rfl rfl ho1 r9 hB5 (by have := rl9.out; omega) (by have := rl9.out; omega) ?_)
              intro v9' w8 hown hg _
              have kI := (Kt.refl (B := 0) (T := fun t => t = 4) (M := False) w7).grown r9 (Nat.zero_le _) rfl hg
              have hT5 := hT5.kt kI (by decide) (by decide) (by decide) (by decide) id
              have kt5 := kt5.grown r9 (Nat.le_refl _) (.inr (.inr (.inr rfl))) hg
              have r7 := OwnR.kt r7 kI (by decide)
              have r8 := OwnR.kt r8 kI (by decide)
              have r9 : OwnB w8 w.heap.size v9' (gs ++ [false]) := by unfold OwnB OwnR; simpa using hown
              have hB5 : w.heap.size ≤ w8.heap.size := kt5.size
              clear hown hg kI ho1 rl9
              go_wp2_with fail
              go_meet
              exact ⟨m + 1, _, _, _, by omega, hT5, hinv.out, by simp [hgl.out], hgone.out, by rw [nums_succ]; exact r7, r8, r9, kt5⟩
        · have e0 : (kd == 0) = false := by simp; omega
          have e1 : (kd == 1) = false := by simp; omega
          have e2 : (kd == 2) = false := by simp; omega
          clear hopen harg hsmall
          by_cases h3 : kd = 3
          · have e3 : (kd == 3) = true := by simp [h3]
            clear hkd6 hko h3
            by_cases hm : ∃ b c, lookC l o.n = some (b, c) ∧ c.owner = ow
            · obtain ⟨b, c, hl, ho⟩ := hm
              have hC := Lib.hid (close_ok ow hG.tab hl ho)
              go_wp2_with fail
              refine hC.out.mono ?_
              rintro e w5 ⟨rfl, hT5, k5⟩
              clear hC
              go_wp2_with fail
              go_meet
              exact ⟨m, _, os, gs, by omega, hG.to k5 hT5 (hG.inv.filter _) (fun n h => isIn_filter h)⟩
            · have hC := Lib.hid (close_no ow o.n hG.tab (fun b c h1 h2 => hm ⟨b, c, h1, h2⟩))
              clear hm
              go_wp2_with fail
              refine hC.out.mono ?_
              rintro e w5 ⟨rfl, rfl⟩
              clear hC
              go_wp2_with fail
              go_meet
              exact ⟨m, _, os, gs, by omega, hG⟩
          · have e3 : (kd == 3) = false := by simpa using h3
            by_cases h4 : kd = 4
            · have e4 : (kd == 4) = true := by simp [h4]
              have hC := Lib.hid (prog_leave ow hG.tab hBw hG.inv.rise (by have := hG.inv.len; omega))
              clear hkd6 hko h3 h4
              go_wp2_with fail
              refine hC.out.mono ?_
              rintro e w5 ⟨v5, rfl, -, hT5, k5⟩
              clear hC
              go_wp2_with fail
              go_meet
              exact ⟨m, _, os, gs, by omega, hG.to k5 hT5 (hG.inv.filter _) (fun n h => isIn_filter h)⟩
            · have e4 : (kd == 4) = false := by simpa using h4
              have hC := Lib.hid (prog_tick t' hG.tab hBw hG.inv.rise (by have := hG.inv.len; omega) htb.out hG.inv.used)
              clear hkd6 hko h3 h4
              go_wp2_with fail
              refine hC.out.mono ?_
              rintro e w5 ⟨v5, rfl, -, hT5, k5⟩
              clear hC
              go_wp2_with fail
              go_meet
              exact ⟨m, _, os, gs, by omega, hG.to k5 hT5 (hG.inv.filter _) (fun n h => isIn_filter h)⟩
      case rest =>
        clear hG hX hsmH hbel hkd how ht' hvl hO hl60 o0 o1 o2 o3 o4 o5 o6 o7 o11
        obtain ⟨m, l, os, gs, hmk, hG⟩ := hcut
        have hL := Lib.hid (tab_len wc hG.tab)
        have hl8 : decide ((8 : Int) < (l.length : Int)) = false := decide_eq_false (by have := hG.inv.len; omega)
        obtain ⟨A7, c7, rfl⟩ := OwnR.form hG.r7
        obtain ⟨A8, c8, rfl⟩ := OwnR.form hG.r8
        obtain ⟨A9, c9, rfl⟩ := OwnR.form hG.r9
        have hn7 : (nums m).length = m := by simp [nums]
        have hn8 := hG.inv.osl
        have hn9 := hG.gl
        rw [hn7, hn8, hn9] at hG ⊢
        clear hn7 hn8 hn9
        go_wp2_with fail
        refine hL.out.mono ?_
        rintro e w5 ⟨rfl, rfl⟩
        clear hL
        go_wp2_with fail
        clear hl8
        go_loopw [15, 16] (fun th j wr => GnIn w bt bm idle m l os (.slice A7 m c7) (.slice A8 m c8) (.slice A9 m c9) th j wr) (fun _ j _ => m - (intOf j).toNat)
        case atStart => exact ⟨0, gs, by omega, rfl, rfl, hG⟩
        case round =>
          clear hG
          obtain ⟨j, gs, hj, rfl, rfl, hG⟩ := hrel
          by_cases hjm : j < m
          · have hr7 := OwnR.row hG.r7
            have hr8 := OwnR.row hG.r8
            have hr9 := OwnR.row hG.r9
            have hosl := Lib.hid hG.inv.osl
            have hgl := Lib.hid hG.gl
            obtain ⟨x7, y7, e7, -, -, row7⟩ := hr7.one
            obtain ⟨x8, y8, e8, -, -, row8⟩ := hr8.one
            obtain ⟨x9, y9, e9, -, -, row9⟩ := hr9.one
            simp only [Value.slice.injEq] at e7 e8 e9
            obtain ⟨rfl, -, rfl⟩ := e7
            obtain ⟨rfl, -, rfl⟩ := e8
            obtain ⟨rfl, -, rfl⟩ := e9
            obtain ⟨g7, f7, rfl, d7⟩ := row7 j (by simp [nums]; omega)
            obtain ⟨g8, f8, rfl, d8⟩ := row8 j (by have := hosl.out; omega)
            obtain ⟨g9, f9, rfl, d9⟩ := row9 j (by have := hgl.out; omega)
            obtain ⟨g9', c9', e9, -, hg9⟩ := World.ownsRow.form hG.r9 (by have := hgl.out; omega)
            simp only [Value.slice.injEq, Option.some.injEq, Addr.mk.injEq, and_true] at e9
            obtain ⟨⟨rfl, rfl⟩, -⟩ := e9
            rw [Nat.zero_add] at d9
            rw [show (nums m)[j]'(by simp [nums]; omega) = (j : Int) + 1 by simp [nums]] at d7
            have hoj : os[j]? = some (os[j]'(by have := hosl.out; omega)) := by simp [hosl.out, hjm]
            have hgj : gs[j]? = some (gs[j]'(by have := hgl.out; omega)) := by simp [hgl.out, hjm]
            generalize os[j]'(by have := hosl.out; omega) = ow at *
            generalize gs[j]'(by have := hgl.out; omega) = gj at *
            have hojH := Lib.hid hoj
            have hgjH := Lib.hid hgj
            have hcs := Lib.hid (cntIn_succ l j)
            obtain ⟨q, hq⟩ : ∃ q, Hid (isIn l ((j : Int) + 1) = q) := ⟨_, rfl⟩
            clear row7 row8 row9 hr7 hr8 hr9 hoj hgj
            have h9H := Lib.hid (fun (W : World) (k : Kp (fun _ => False) wr W) => gone_cell (hG.kp k) d9 k hg9 j)
            have hZ := Lib.hid (fun (W : World) (k : Kp (fun _ => False) (wr.alloc (.cells zAsk 49)).drew W) => zask_cells k hg9)
            have h7l : g7 < wr.heap.size := cell_block d7
            have h8l : g8 < wr.heap.size := cell_block d8
            have h7n : ¬ g7 = wr.heap.size := by omega
            have h8n : ¬ g8 = wr.heap.size := by omega
            have h9n0 : ¬ g9 = wr.heap.size := by omega
            have kwr := Kp.refl (fun _ => False) wr
            cases q
            case true =>
              obtain ⟨⟨n0, b, c⟩, hpl, hpn⟩ := isIn_iff.1 hq.out
              simp only at hpn
              subst hpn
              have hlk : lookC l ((j : Int) + 1) = some (b, c) := lookC_of_mem hG.tab.keys hpl
              have hown : c.owner = ow := by
                have h1 := hG.inv.own _ hpl
                simp only at h1
                rw [show (((j : Int) + 1 - 1).toNat) = j by omega, hojH.out] at h1
                simpa using h1.symm
              have hpg : c.page = 0 := hG.inv.page _ hpl
              have hTk := Lib.hid (fun (W : World) (k : Kp (fun _ => False) wr W) => take_wrong ow 3 t' (hG.tab.kp k) hlk hown (by simp [rightC, hpg]) (by decide) (by decide))
              have hgf : gj = false := by
                cases gj
                · rfl
                · have := hG.gone j hgjH.out
                  rw [hq.out] at this
                  cases this
              subst hgf
              clear hlk hown hpg hpl
              have hGf := Lib.hid (fun (W' : World) (k : Kp (fun _ => False) wr W') => gone_set (hG.kp k) hjm (false) (by intro h; cases h))
              go_wp2_with fail
              go_region_law
                (first
                | (go_simp; go_at_call 28; refine Calls.mono (hTk.out _ (Kp.drew kwr)) ?_; rintro e w6 ⟨rfl, k6⟩; unfold zAsk; have q6 := (Kp.drew kwr).trans k6; obtain ⟨c9, y9, h9l, h9n⟩ := h9H.out _ q6; have hE := gone_alloc (hGf.out _ q6) (.cells zAsk 49))
                | (go_simp; go_at_call 28; refine Calls.mono (hTk.out _ (Kp.drew (kwr.alloc _))) ?_; rintro e w6 ⟨rfl, k6⟩; unfold zAsk; have q6 := (Kp.drew (kwr.alloc _)).trans k6; obtain ⟨c9, y9, h9l, h9n⟩ := h9H.out _ q6; obtain ⟨z0, z1, z2, z3, z4, z5, z6, z7, yz, zl, zn⟩ := hZ.out _ k6; have hE := hGf.out _ (zcells q6 (v0 := .int .i64 0) (v1 := .slice none 0 0) (v2 := .slice none 0 0) (v3 := .slice none 0 0) (v4 := .slice none 0 0) (v5 := .bool false) (v6 := .int .i64 0) (v7 := .int .u32 0))))
              all_goals
                clear hTk hGf
                go_wp2_with fail
                have hcs := hcs.out
                rw [hq.out] at hcs
                refine ⟨⟨j + 1, gs.set j false, by omega, rfl, ?_, ?_⟩, by simp [intOf]; omega⟩
                · have hle := cntIn_le l j
                  rw [hcs, if_pos rfl, wrap64_in' (by omega), Int.natCast_add]
                  simp only [Int.natCast_one]
                · exact hE
            case false =>
              have hlk : lookC l ((j : Int) + 1) = none := by
                cases h : lookC l ((j : Int) + 1) with
                | none => rfl
                | some q =>
                  have := isIn_iff.2 ⟨_, lookC_mem h, rfl⟩
                  simp only at this
                  rw [hq.out] at this
                  cases this
              have hTk := Lib.hid (fun (W : World) (k : Kp (fun _ => False) wr W) => take_none ow ((j : Int) + 1) 3 t' (hG.tab.kp k) (fun b c h => by rw [hlk] at h; cases h))
              clear hlk
              have hGf := Lib.hid (fun (W' : World) (k : Kp (fun _ => False) wr W') => gone_set (hG.kp k) hjm (true) (by intro _; exact hq.out))
              go_wp2_with fail
              go_region_law
                (first
                | (go_simp; go_at_call 28; refine Calls.mono (hTk.out _ (Kp.drew kwr)) ?_; rintro e w6 ⟨rfl, k6⟩; unfold zAsk; have q6 := (Kp.drew kwr).trans k6; obtain ⟨c9, y9, h9l, h9n⟩ := h9H.out _ q6; have hE := gone_alloc (hGf.out _ q6) (.cells zAsk 49))
                | (go_simp; go_at_call 28; refine Calls.mono (hTk.out _ (Kp.drew (kwr.alloc _))) ?_; rintro e w6 ⟨rfl, k6⟩; unfold zAsk; have q6 := (Kp.drew (kwr.alloc _)).trans k6; obtain ⟨c9, y9, h9l, h9n⟩ := h9H.out _ q6; obtain ⟨z0, z1, z2, z3, z4, z5, z6, z7, yz, zl, zn⟩ := hZ.out _ k6; have hE := hGf.out _ (zcells q6 (v0 := .int .i64 0) (v1 := .slice none 0 0) (v2 := .slice none 0 0) (v3 := .slice none 0 0) (v4 := .slice none 0 0) (v5 := .bool false) (v6 := .int .i64 0) (v7 := .int .u32 0))))
              all_goals
                clear hTk hGf
                have hcs := hcs.out
                rw [hq.out, if_neg (by decide), Nat.add_zero] at hcs
                go_wp2_with fail
                all_goals
                  refine ⟨⟨j + 1, gs.set j true, by omega, rfl, by rw [hcs]; first | done | rfl, ?_⟩, by simp [intOf]; omega⟩
                  exact hE
          · have hjE : j = m := by omega
            subst hjE
            have hgl := Lib.hid hG.gl
            have hL := Lib.hid (tab_len wr hG.tab)
            have hcA := Lib.hid (cntIn_all hG.inv)
            have hdl : decide ((j : Int) < (j : Int)) = false := decide_eq_false (by omega)
            rw [hcA.out]
            clear hcA
            go_wp2_with fail
            refine hL.out.mono ?_
            rintro e w5 ⟨rfl, rfl⟩
            clear hL
            go_wp2_with fail
            go_roundw
            case rel => exact ⟨k + 1, j, l, os, gs, t', by omega, by omega, by omega, by go_num, rfl, htb.out.1, htb.out.2, hG⟩
            case measure => simp [intOf]; omega
    · by_cases hl1 : k < ol.length
      · have hl60 : decide ((k : Int) < 60) = false := decide_eq_false (by omega)
        clear hlt
        go_wp2_with fail
        go_ret
        exact ⟨rfl, hG.kt.below (Nat.le_refl _)⟩
      · clear hlt
        have hkE : k = ol.length := by omega
        subst hkE
        have e1 : decide (ol.length < ol.length) = false := by simp
        go_wp2_with fail
        go_ret
        exact ⟨rfl, hG.kt.below (Nat.le_refl _)⟩
end Go.Proofs.Ytcamhpjgpjihhaa

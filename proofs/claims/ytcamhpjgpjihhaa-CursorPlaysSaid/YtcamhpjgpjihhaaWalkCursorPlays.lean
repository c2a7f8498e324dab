/- CursorPlays: whatever is opened, taken, told, closed and left, as ticks go by, each answer is the document's: the walk. (Printed by gen_plays.py.) -/
import Derived.Test.YtcamhpjgpjihhaaPlays0
namespace Go.Proofs.Ytcamhpjgpjihhaa
set_option linter.unusedVariables false
set_option linter.unusedSimpArgs false
open Go.RowKit
attribute [local go_sem ↓] loadOp
attribute [local go_sem] isPtrA_ptr adrOf_ptr

set_option maxRecDepth 8000 in
set_option maxHeartbeats 8000000 in
theorem cursorPlays_walk (v0 v1 : Value) (w : World) (h0 : Came Try.prog w 41 v0) (h1 : Came Try.prog w 66 v1) :
    Calls Try.prog 13 #[v0, v1] w fun e w' => e = .returned (.bool true) ∧ Below w.heap.size w w' := by
  obtain ⟨idle, rfl, hidle⟩ := Came.int Try.underlying41 h0
  have hidle := Lib.hid (wf_u32 hidle)
  obtain ⟨ol, A, cap, rfl, hlc, hlm, hrow⟩ := came_ops h1
  have hlen : ol.length ≤ 9223372036854775807 := by simp only [maxLen] at hlm; omega
  have hrowH := Lib.hid hrow
  clear h0 h1 hlc hlm hrow
  go_enter Try.func13, Try.ntmps13
  go_wp2_with fail
  refine (cursor_alive _).mono ?_
  rintro e w1 ⟨rfl, k1⟩
  have hB1 : w.heap.size ≤ w1.heap.size := k1.size
  go_wp2_with fail
  refine (tab_new idle w1 w.heap.size hB1).mono ?_
  rintro e w2 ⟨bt, bm, rfl, hT, k2⟩
  have hB2 : w.heap.size ≤ w2.heap.size := Nat.le_trans hB1 k2.size
  have hG : PlAt w bt bm w2.heap.size idle 0 0 [] [] (w2.alloc (.cells #[.int .u32 idle, .slice none 0 0, .int .u32 0] 70)) :=
    ⟨hT.kp ((Kp.refl _ _).alloc _), RTab.new w w2 _ idle hB2, LR.nil, ⟨by simp, by simp, by simp, by simp, by simp, by simp⟩, Kt.of_kp ((k1.trans k2).alloc _)⟩
  clear hT k1 k2
  go_wp2_with fail
  generalize hc : w2.heap.size = c at *
  clear hc
  go_loopw [7, 8] (fun v7 i wr => PlRel w bt bm c ol.length idle v7 i wr) (fun _ i _ => ol.length - (intOf i).toNat)
  case atStart => exact ⟨0, 0, [], [], 0, by omega, by omega, by omega, rfl, rfl, by omega, by omega, hG⟩
  case round =>
    clear hG
    obtain ⟨k, m, l, rs, t, hk, hk80, hmk, rfl, rfl, ht0, ht1, hG⟩ := hrel
    by_cases hlt : k < ol.length ∧ k < 80
    · obtain ⟨hl1, hl2⟩ := hlt
      obtain ⟨ob, off, es, rfl, hesl, hcc, hop⟩ := hrowH.out k hl1
      have hrd0 : rdAt w ⟨ob, off + k * 12, none⟩ 12 = some es.toArray := rdAt_rowN hesl hcc
      generalize ol[k] = o at *
      obtain ⟨xvA, xvc, xaA, xac, xyA, xyc, xnA, xnc, xhA, xhc, rfl, hov, hoa, hoy, hon, hoh, hob⟩ := hop
      have hob2 : ob < w.heap.size := cell_block ((hcc 0 (by omega)).trans rfl)
      have hrd : rdAt wr ⟨ob, off + k * 12, none⟩ 12 = some #[.int .u8 o.kind, .int .u8 o.owner, .int .i64 o.pin, .slice xvA o.vec.length xvc, .slice xaA o.al.length xac, .slice xyA o.an.length xyc, .slice xnA o.no.length xnc, .int .u32 o.n, .int .u32 o.page, .slice xhA o.hits.length xhc, .bool o.tell, .int .u32 o.ahead] := rdAt_below hrd0 (hG.kt.below (Nat.le_refl _)) hob2
      have hl80 : decide ((k : Int) < 80) = true := decide_eq_true (by omega)
      have hX := Lib.hid (And.intro hov (And.intro hoa (And.intro hoy (And.intro hon (And.intro hoh hob)))))
      have hbel := Lib.hid (fun (w' : World) (q : Kt w.heap.size TP True w w') => Keeps.below (q.below (Nat.le_refl _)))
      have hvl : o.vec.length ≤ 9223372036854775807 := by
        obtain ⟨_, _, e, h1, h2, _⟩ := hov.one
        simp only [maxLen] at h2
        omega
      have kA := ((Kp.refl (fun _ => False) wr).alloc (.cells #[.int .u8 o.kind, .int .u8 o.owner, .int .i64 o.pin, .slice xvA o.vec.length xvc, .slice xaA o.al.length xac, .slice xyA o.an.length xyc, .slice xnA o.no.length xnc, .int .u32 o.n, .int .u32 o.page, .slice xhA o.hits.length xhc, .bool o.tell, .int .u32 o.ahead] 72)).alloc (.cells #[.int .u32 0, .slice xvA o.vec.length xvc, .slice none 0 0] 75)
      have hGA := hG.kp kA
      have hGr := Lib.hid (great10 (vn := o.vec.length) (Blk.new (wr.alloc (.cells #[.int .u8 o.kind, .int .u8 o.owner, .int .i64 o.pin, .slice xvA o.vec.length xvc, .slice xaA o.al.length xac, .slice xyA o.an.length xyc, .slice xnA o.no.length xnc, .int .u32 o.n, .int .u32 o.page, .slice xhA o.hits.length xhc, .bool o.tell, .int .u32 o.ahead] 72)) #[.int .u32 0, .slice xvA o.vec.length xvc, .slice none 0 0] 75) hvl (hoa.keeps (hbel.out _ hGA.kt)) (hoy.keeps (hbel.out _ hGA.kt)) (hon.keeps (hbel.out _ hGA.kt)))
      rw [show (wr.alloc (.cells #[.int .u8 o.kind, .int .u8 o.owner, .int .i64 o.pin, .slice xvA o.vec.length xvc, .slice xaA o.al.length xac, .slice xyA o.an.length xyc, .slice xnA o.no.length xnc, .int .u32 o.n, .int .u32 o.page, .slice xhA o.hits.length xhc, .bool o.tell, .int .u32 o.ahead] 72)).heap.size = wr.heap.size + 1 by simp] at hGr
      have hO : OpX _ wr.heap.size o xvA xvc xaA xac xyA xyc xnA xnc xhA xhc := (Blk.new wr #[.int .u8 o.kind, .int .u8 o.owner, .int .i64 o.pin, .slice xvA o.vec.length xvc, .slice xaA o.al.length xac, .slice xyA o.an.length xyc, .slice xnA o.no.length xnc, .int .u32 o.n, .int .u32 o.page, .slice xhA o.hits.length xhc, .bool o.tell, .int .u32 o.ahead] 72).alloc (.cells #[.int .u32 0, .slice xvA o.vec.length xvc, .slice none 0 0] 75)
      have hGAH := Lib.hid hGA
      clear hcc hrd0 hov hoa hoy hon hoh hob hG hob2 kA hGA
      go_wp2_with fail
      refine hGr.out.mono ?_
      rintro e w4 ⟨q, rfl, hsm, k4⟩
      have hG := hGAH.out.kp k4
      have hO := OpX.kp hO k4
      cases q
      case true =>
        go_wp2_with fail
        go_ret
        exact ⟨rfl, hG.kt.below (Nat.le_refl _)⟩
      have hsmH := Lib.hid (hsm (by trivial))
      clear hsm
      generalize wr.heap.size = bo at *
      clear hGr hGAH k4 hrd
      obtain ⟨o0, o1, o2, o3, o4, o5, o6, o7, o8, o9, o10, o11⟩ := hO.cells
      obtain ⟨ow, how⟩ : ∃ ow, IntKind.u64.wrap (o.owner.tmod 3) = ow := ⟨_, rfl⟩
      obtain ⟨t', ht'⟩ : ∃ t', IntKind.u32.wrap (t + o.ahead) = t' := ⟨_, rfl⟩
      have htb : Hid (0 ≤ t' ∧ t' < 4294967296) := by
        unfold Hid
        rw [← ht', show IntKind.u32.wrap (t + o.ahead) = (t + o.ahead) % 4294967296 from rfl]
        omega
      obtain ⟨kd, hkd⟩ : ∃ kd, o.kind.tmod 6 = kd := ⟨_, rfl⟩
      go_upto_block 2 with fail
      go_cut [] (fun wx => PlCut w bt bm c k idle wx)
      case first =>
        have hbd := hX.out.2.2.2.2.2
        have hask0 : Hid (AskR w [.int .i64 o.pin, .slice xvA o.vec.length xvc, .slice xaA o.al.length xac, .slice xyA o.an.length xyc, .slice xnA o.no.length xnc, .bool false, .int .i64 0, .int .u32 0] ⟨o.pin, o.vec, o.al, o.an, o.no, false, 0, 0⟩) := ⟨_, _, _, _, rfl, hX.out.1, hX.out.2.1, hX.out.2.2.1, hX.out.2.2.2.1⟩
        have hhits := Lib.hid hX.out.2.2.2.2.1
        have hsmall : Hid ((AskC.mk o.pin o.vec o.al o.an o.no false 0 0).small) := by
          obtain ⟨h1, h2, h3, h4⟩ := hsmH.out
          exact ⟨by show o.vec.length ≤ _; omega, by show o.al.length ≤ _; omega, by show o.an.length ≤ _; omega, by show o.no.length ≤ _; omega⟩
        have hBw : w.heap.size ≤ w4.heap.size := hG.size
        have hm80 : (m : Int) < 4294967295 := by omega
        have hkd6 : kd = 0 ∨ kd = 1 ∨ kd = 2 ∨ kd = 3 ∨ kd = 4 ∨ kd = 5 := by
          rw [← hkd]
          obtain ⟨⟨h1, h2⟩, _⟩ := hbd
          rw [Int.tmod_eq_emod_of_nonneg h1]
          omega
        have hpgb : Hid ((0 ≤ o.page ∧ o.page < 4294967296) ∧ (0 ≤ o.n ∧ o.n < 4294967296)) := ⟨hbd.2.2.2.1, hbd.2.2.1⟩
        clear hX hsmH hkd how hvl hl80 hbd
        by_cases hk0 : kd = 0
        · have e0 : (kd == 0) = true := by simp [hk0]
          clear hkd6 hk0
          as_aux_lemma =>
            by_cases hl8 : l.length < 8
            · have hO1 := Lib.hid (open_room ow o.pin t' _ _ _ _ o.vec o.al o.an o.no hG.tab hBw hl8 (fun p hp => (hG.key p hp).2) (by omega) hm80 (fun w' q => hask0.out.keeps (hbel.out _ (hG.kt.trans (TC_TP q)))) hsmall.out)
              have hrs8 : rs.length < 8 := by have := hG.len.1; omega
              go_wp2_with fail
              refine hO1.out.mono ?_
              rintro e w5 ⟨b, rfl, hT5, k5⟩
              have hR5 := hG.ref.rkt k5
              have hO5 := hO.c k5
              have hO2 := Lib.hid (r14_open_room ow o.pin t' _ _ _ _ o.vec o.al o.an o.no hR5 (Nat.le_trans hBw k5.size) hrs8 (by omega) hm80 hask0.out)
              clear hO1 o0 o1 o2 o3 o4 o5 o6 o7 o8 o9 o10 o11 hO hR5
              obtain ⟨o0, o1, o2, o3, o4, o5, o6, o7, o8, o9, o10, o11⟩ := hO5.cells
              go_wp2_with fail
              refine hO2.out.mono ?_
              rintro e w6 ⟨rfl, hR6, k6⟩
              clear hO2 o0 o1 o2 o3 o4 o5 o6 o7 o8 o9 o10 o11
              have hG6 := Lib.hid (PlAt.mk (k := k + 1) (m := m + 1) (hT5.tkt k6) hR6 (hG.lr.snoc rfl rfl) ((hG.inv.snoc hrs8 rfl htb.out rfl hsmall.out).mono (by omega)) ((hG.kt.trans (TC_TP k5)).trans (TR_TP k6)))
              clear hT5 hR6 hG
              go_wp2_with fail
              go_meet
              exact ⟨m + 1, _, _, by omega, hG6.out⟩
            · have hl8' : 8 ≤ l.length := by omega
              have hO1 := Lib.hid (open_full ow o.pin t' _ _ _ _ o.vec o.al o.an o.no hG.tab hBw hl8' hG.key (by omega) hm80 (fun w' q => hask0.out.keeps (hbel.out _ (hG.kt.trans (TC_TP q)))) hsmall.out)
              have hrs8 : 8 ≤ rs.length ∧ rs.length ≤ 1000 := by have := hG.len; omega
              clear hl8 hl8'
              go_wp2_with fail
              refine hO1.out.mono ?_
              rintro e w5 ⟨n0, b0, c0, b, he, rfl, hT5, k5⟩
              have hR5 := hG.ref.rkt k5
              have hO5 := hO.c k5
              have hO2 := Lib.hid (r14_open_full ow o.pin t' _ _ _ _ o.vec o.al o.an o.no hR5 (Nat.le_trans hBw k5.size) hrs8.1 hrs8.2 (by omega) hm80 hask0.out)
              have heH := Lib.hid he
              clear hO1 o0 o1 o2 o3 o4 o5 o6 o7 o8 o9 o10 o11 hO hR5 he
              obtain ⟨o0, o1, o2, o3, o4, o5, o6, o7, o8, o9, o10, o11⟩ := hO5.cells
              go_wp2_with fail
              refine hO2.out.mono ?_
              rintro e w6 ⟨a, hal, hE, rfl, hR6, k6⟩
              clear hO2 o0 o1 o2 o3 o4 o5 o6 o7 o8 o9 o10 o11
              obtain ⟨hal2, hce, hra⟩ := hG.lr.eld hG.inv.rise heH.out hE
              have hpin : (c0.ask.pin != rs[a].ask.pin) = false := by
                rw [hce]
                simp [curOf]
              have hlen7 : (rs.eraseIdx a).length < 8 := by
                have := List.length_eraseIdx_of_lt hal
                have := hG.len.2
                omega
              have hG6 := Lib.hid (PlAt.mk (k := k + 1) (m := m + 1) (hT5.tkt k6) hR6 ((hG.lr.del hG.inv.nodup hra).snoc rfl rfl) (((hG.inv.erase a).snoc hlen7 rfl htb.out rfl hsmall.out).mono (by omega)) ((hG.kt.trans (TC_TP k5)).trans (TR_TP k6)))
              clear hT5 hR6 hG hce hra hE
              go_wp2_with fail
              go_meet
              exact ⟨m + 1, _, _, by omega, hG6.out⟩
        · have e0 : (kd == 0) = false := by simpa using hk0
          by_cases hk12 : kd = 1 ∨ kd = 2
          · have e12 : Hid (((kd == 1) = true) ∨ ((kd == 1) = false ∧ (kd == 2) = true)) := by
              rcases hk12 with rfl | rfl
              · exact .inl rfl
              · exact .inr ⟨rfl, rfl⟩
            clear hkd6 hk0 hk12
            as_aux_lemma =>
              have hrs9 : rs.length ≤ 1000 := by have := hG.len; omega
              obtain ⟨tl, htl0⟩ : ∃ tl, o.tell = tl := ⟨_, rfl⟩
              have htl : o.tell = tl := htl0
              rcases e12.out with e1 | ⟨e1, e2⟩
              all_goals
                rcases hG.lr.find o.n with ⟨hk9, hno9⟩ | ⟨i, r, b, ha9, hk9⟩
                · have hA := Lib.hid (r14_at_no hG.ref hno9 hrs9)
                  go_wp2_with fail
                  refine hA.out.mono ?_
                  rintro e wq ⟨rfl, rfl⟩
                  clear hA
                  have hGq := hG
                  have hOq := hO
                  have hpgb := Lib.hid hpgb.out.1
                  as_aux_lemma =>
                    have hT := Lib.hid (take_none ow o.n o.page t' hGq.tab (notMine_none hk9))
                    go_wp2_with fail
                    refine hT.out.mono ?_
                    rintro e w5 ⟨rfl, k5⟩
                    unfold zAsk
                    have hG5 := hGq.kp k5
                    have hO5 := OpX.kp hOq k5
                    have hG5a := hG5.kp ((Kp.refl _ w5).alloc (.cells zAsk 49))
                    have hT2 := Lib.hid (r14_take_none ow o.n o.page t' hG5a.ref hno9 hrs9)
                    have hB1 := Blk.new w5 zAsk 49
                    have hO5a := OpX.kp hO5 ((Kp.refl _ w5).alloc (.cells zAsk 49))
                    unfold zAsk at hT2 hO5a
                    clear hT k5 o0 o1 o2 o3 o4 o5 o6 o7 o8 o9 o10 o11
                    obtain ⟨o0, o1, o2, o3, o4, o5, o6, o7, o8, o9, o10, o11⟩ := hO5a.cells
                    go_wp2_with fail
                    refine hT2.out.mono ?_
                    rintro e w6 ⟨rfl, k6⟩
                    clear hT2 o0 o1 o2 o3 o4 o5 o6 o7 o8 o9 o10 o11 hO5a
                    have hB1 := hB1.kp k6 id
                    obtain ⟨z0, z1, z2, z3, z4, z5, z6, z7, zf⟩ := zask_at hB1
                    have hl5 : w5.heap.size < w6.heap.size := hB1.lt
                    have hn5 : ¬ w5.heap.size = w6.heap.size := by omega
                    clear hB1
                    have hG6 := Lib.hid (hG5a.kp k6)
                    have hO6 := Lib.hid (OpX.kp (OpX.kp hO5 ((Kp.refl _ w5).alloc (.cells zAsk 49))) k6)
                    have hSm := Lib.hid (fun (W : World) => ask_same [.int .i64 0, .slice none 0 0, .slice none 0 0, .slice none 0 0, .slice none 0 0, .bool false, .int .i64 0, .int .u32 0] [.int .i64 0, .slice none 0 0, .slice none 0 0, .slice none 0 0, .slice none 0 0, .bool false, .int .i64 0, .int .u32 0] ⟨0, [], [], [], [], false, 0, 0⟩ W (askZ W) (askZ W))
                    clear hG5 hG5a hO5 k6
                    go_wp2_with fail
                    refine (hSm.out _).mono ?_
                    rintro e w7 ⟨rfl, k7⟩
                    have k67 := ((Kp.refl (fun _ => False) w6).alloc (.cells zAsk 49)).trans k7
                    have hG9 := Lib.hid (hG6.out.kp k67)
                    have hO9 := Lib.hid (OpX.kp hO6.out k67)
                    clear hSm z0 z1 z2 z3 z4 z5 z6 z7 zf k67 k7 hG6 hO6 hGq hOq hG hO
                    have hO9c := hO9.out.cells
                    rw [htl] at hO9c
                    obtain ⟨o0, o1, o2, o3, o4, o5, o6, o7, o8, o9, o10, o11⟩ := hO9c
                    cases tl with
                    | false =>
                      go_wp2_with fail
                      go_meet
                      exact ⟨m, _, _, by omega, ⟨hG9.out.tab, hG9.out.ref, hG9.out.lr, hG9.out.inv.mono (by omega), hG9.out.kt⟩⟩
                    | true =>
                      have hA := Lib.hid (told_no o.n o.page (.slice xhA o.hits.length xhc) hG9.out.tab hk9)
                      have hB := Lib.hid (r14_told_none o.n o.page (.slice xhA o.hits.length xhc) hG9.out.ref hno9 hrs9)
                      go_wp2_with fail
                      refine hA.out.mono ?_
                      rintro e w10 ⟨rfl, rfl⟩
                      clear hA
                      go_wp2_with fail
                      refine hB.out.mono ?_
                      rintro e w11 ⟨rfl, k11⟩
                      clear hB
                      go_wp2_with fail
                      go_meet
                      exact ⟨m, _, _, by omega, ⟨hG9.out.tab.kp k11, hG9.out.ref.kp k11, hG9.out.lr, hG9.out.inv.mono (by omega), hG9.out.kt.kp k11⟩⟩
                · have hA := Lib.hid (r14_at hG.ref ha9 hrs9)
                  obtain ⟨g, cap2, v, a, y, z, ev, d1, -, d2, -, hev, -⟩ := hG.ref.look' ha9
                  have hra := ha9.mem
                  have hre9 := hG.inv.ends r hra
                  obtain ⟨EA, ecap, rfl⟩ := RowsO.form hev
                  rw [List.length_map] at *
                  have d10 := (d2 10 (by omega)).trans (show _ = some (Value.slice EA r.ends.length ecap) from rfl)
                  have hcv : IntKind.u32.wrap (r.ends.length : Int) = (r.ends.length : Int) := by rw [show IntKind.u32.wrap (r.ends.length : Int) = (r.ends.length : Int) % 4294967296 from rfl]; omega
                  obtain ⟨pg, hpg⟩ : ∃ pg, IntKind.u32.wrap (o.page + (r.ends.length : Int)) = pg := ⟨_, rfl⟩
                  have hpgb : Hid (0 ≤ pg ∧ pg < 4294967296) := by
                    unfold Hid
                    rw [← hpg, show IntKind.u32.wrap (o.page + (r.ends.length : Int)) = (o.page + (r.ends.length : Int)) % 4294967296 from rfl]
                    omega
                  have hlti := ha9.lt
                  clear d2 hev
                  go_wp2_with fail
                  refine hA.out.mono ?_
                  rintro e wq ⟨rfl, rfl⟩
                  clear hA
                  go_wp2_with fail
                  go_quiet (fail)
                  have hGq := hG.kp (Kp.drewN (Kp.refl _ _) nq)
                  have hOq := OpX.kp hO (Kp.drewN (Kp.refl _ _) nq)
                  clear d1 d10 hcv hpg
                  by_cases ho : r.owner = ow
                  · cases hr9 : rightR r pg with
                    | false =>
                      as_aux_lemma =>
                        have hT := Lib.hid (take_wrong ow pg t' hGq.tab hk9 ho (by rw [right_of r _ hre9.1 hpgb.out.1]; exact hr9) hpgb.out.1 hpgb.out.2)
                        go_wp2_with fail
                        refine hT.out.mono ?_
                        rintro e w5 ⟨rfl, k5⟩
                        unfold zAsk
                        have hG5 := hGq.kp k5
                        have hO5 := OpX.kp hOq k5
                        have hG5a := hG5.kp ((Kp.refl _ w5).alloc (.cells zAsk 49))
                        have hT2 := Lib.hid (r14_take_wrong ow pg t' hG5a.ref ha9 ho hr9 ⟨hre9.1, by omega⟩ hpgb.out hrs9)
                        have hB1 := Blk.new w5 zAsk 49
                        have hO5a := OpX.kp hO5 ((Kp.refl _ w5).alloc (.cells zAsk 49))
                        unfold zAsk at hT2 hO5a
                        clear hT k5 o0 o1 o2 o3 o4 o5 o6 o7 o8 o9 o10 o11
                        obtain ⟨o0, o1, o2, o3, o4, o5, o6, o7, o8, o9, o10, o11⟩ := hO5a.cells
                        go_wp2_with fail
                        refine hT2.out.mono ?_
                        rintro e w6 ⟨rfl, k6⟩
                        clear hT2 o0 o1 o2 o3 o4 o5 o6 o7 o8 o9 o10 o11 hO5a
                        have hB1 := hB1.kp k6 id
                        obtain ⟨z0, z1, z2, z3, z4, z5, z6, z7, zf⟩ := zask_at hB1
                        have hl5 : w5.heap.size < w6.heap.size := hB1.lt
                        have hn5 : ¬ w5.heap.size = w6.heap.size := by omega
                        clear hB1
                        have hG6 := Lib.hid (hG5a.kp k6)
                        have hO6 := Lib.hid (OpX.kp (OpX.kp hO5 ((Kp.refl _ w5).alloc (.cells zAsk 49))) k6)
                        have hSm := Lib.hid (fun (W : World) => ask_same [.int .i64 0, .slice none 0 0, .slice none 0 0, .slice none 0 0, .slice none 0 0, .bool false, .int .i64 0, .int .u32 0] [.int .i64 0, .slice none 0 0, .slice none 0 0, .slice none 0 0, .slice none 0 0, .bool false, .int .i64 0, .int .u32 0] ⟨0, [], [], [], [], false, 0, 0⟩ W (askZ W) (askZ W))
                        clear hG5 hG5a hO5 k6
                        go_wp2_with fail
                        refine (hSm.out _).mono ?_
                        rintro e w7 ⟨rfl, k7⟩
                        have k67 := ((Kp.refl (fun _ => False) w6).alloc (.cells zAsk 49)).trans k7
                        have hG9 := Lib.hid (hG6.out.kp k67)
                        have hO9 := Lib.hid (OpX.kp hO6.out k67)
                        clear hSm z0 z1 z2 z3 z4 z5 z6 z7 zf k67 k7 hG6 hO6 hGq hOq hG hO
                        have hO9c := hO9.out.cells
                        rw [htl] at hO9c
                        obtain ⟨o0, o1, o2, o3, o4, o5, o6, o7, o8, o9, o10, o11⟩ := hO9c
                        cases tl with
                        | false =>
                          go_wp2_with fail
                          go_meet
                          exact ⟨m, _, _, by omega, ⟨hG9.out.tab, hG9.out.ref, hG9.out.lr, hG9.out.inv.mono (by omega), hG9.out.kt⟩⟩
                        | true =>
                          have hA := Lib.hid (told_wrong o.n pg (.slice xhA o.hits.length xhc) hG9.out.tab hk9 (by rw [right_of _ _ hre9.1 hpgb.out.1]; exact hr9) hpgb.out.1 hpgb.out.2)
                          have hB := Lib.hid (r14_told_wrong pg (.slice xhA o.hits.length xhc) hG9.out.ref ha9 hr9 ⟨hre9.1, by omega⟩ hpgb.out hrs9)
                          go_wp2_with fail
                          refine hA.out.mono ?_
                          rintro e w10 ⟨rfl, rfl⟩
                          clear hA
                          go_wp2_with fail
                          refine hB.out.mono ?_
                          rintro e w11 ⟨rfl, k11⟩
                          clear hB
                          go_wp2_with fail
                          go_meet
                          exact ⟨m, _, _, by omega, ⟨hG9.out.tab.kp k11, hG9.out.ref.kp k11, hG9.out.lr, hG9.out.inv.mono (by omega), hG9.out.kt.kp k11⟩⟩
                    | true =>
                      as_aux_lemma =>
                        obtain ⟨p, hp⟩ : ∃ p : Nat, pg = (p : Int) + 1 := by
                          have := hr9
                          unfold rightR at this
                          simp at this
                          exact ⟨(pg - 1).toNat, by omega⟩
                        subst hp
                        have hsm := hG.inv.small r hra
                        have hBq : w.heap.size ≤ (w4.drewN nq).heap.size := hGq.size
                        have hT := Lib.hid (take_ok ow ((p : Int) + 1) t' hGq.tab hBq hk9 ho (by rw [right_of r _ hre9.1 hpgb.out.1]; exact hr9) hsm hpgb.out.1 hpgb.out.2)
                        go_wp2_with fail
                        refine hT.out.mono ?_
                        rintro e w5 ⟨cs, rfl, hA5, hT5, k5⟩
                        have hask : askOf (curOf r) ((p : Int) + 1) = { r.ask with has := (r.ends.getD p (false, 0, 0)).1, ld := (r.ends.getD p (false, 0, 0)).2.1, li := (r.ends.getD p (false, 0, 0)).2.2 } := by
                          unfold askOf
                          rw [behind_of r p hr9 hre9.1]
                          rfl
                        rw [hask] at hA5
                        obtain ⟨⟨q1, q2, q3⟩, hq⟩ : ∃ q, Hid (r.ends.getD p (false, 0, 0) = q) := ⟨_, rfl⟩
                        rw [hq.out] at hA5
                        simp only at hA5
                        clear hask
                        obtain ⟨xv, xa, xy, xn, rfl, p1, p2, p3, p4⟩ := id hA5
                        obtain ⟨XV, xvn, rfl⟩ := OwnR.form p1
                        obtain ⟨XA, xan, rfl⟩ := OwnR.form p2
                        obtain ⟨XY, xyn, rfl⟩ := OwnR.form p3
                        obtain ⟨XN, xnn, rfl⟩ := OwnR.form p4
                        have hR5 := hGq.ref.rkt k5
                        have hkt5 := hGq.kt.trans (TC_TP k5)
                        have hB5 : w.heap.size ≤ w5.heap.size := hkt5.size
                        have hO5 := hOq.c k5
                        have kA1 := (Kp.refl (fun _ => False) w5).alloc (.cells #[.int .i64 r.ask.pin, .slice XV r.ask.vec.length xvn, .slice XA r.ask.al.length xan, .slice XY r.ask.an.length xyn, .slice XN r.ask.no.length xnn, .bool q1, .int .i64 q2, .int .u32 q3] 49)
                        have hT2 := Lib.hid (r14_take_ok ow p t' (hR5.kp kA1) ha9 ho hr9 ⟨hre9.1, by omega⟩ hrs9)
                        have hO5a := OpX.kp hO5 kA1
                        have hB1 := Blk.new w5 #[.int .i64 r.ask.pin, .slice XV r.ask.vec.length xvn, .slice XA r.ask.al.length xan, .slice XY r.ask.an.length xyn, .slice XN r.ask.no.length xnn, .bool q1, .int .i64 q2, .int .u32 q3] 49
                        have hA5H := Lib.hid hA5
                        clear hT hA5 p1 p2 p3 p4 o0 o1 o2 o3 o4 o5 o6 o7 o8 o9 o10 o11
                        obtain ⟨o0, o1, o2, o3, o4, o5, o6, o7, o8, o9, o10, o11⟩ := hO5a.cells
                        go_wp2_with fail
                        refine hT2.out.mono ?_
                        rintro e w6 ⟨cs6, rfl, hA6, hR6, k6⟩
                        rw [hq.out] at hA6
                        simp only at hA6
                        clear hT2 o0 o1 o2 o3 o4 o5 o6 o7 o8 o9 o10 o11
                        obtain ⟨yv, ya, yy, yn, rfl, s1, s2, s3, s4⟩ := id hA6
                        obtain ⟨YV, yvn, rfl, -⟩ := s1.one
                        obtain ⟨YA, yan, rfl, -⟩ := s2.one
                        obtain ⟨YY, yyn, rfl, -⟩ := s3.one
                        obtain ⟨YN, ynn, rfl, -⟩ := s4.one
                        have hB1 := hB1.kt k6 (by unfold TR; decide)
                        obtain ⟨z0, z1, z2, z3, z4, z5, z6, z7, zf⟩ := lit_at hB1
                        have hl5 : w5.heap.size < w6.heap.size := hB1.lt
                        have hn5 : ¬ w5.heap.size = w6.heap.size := by omega
                        have hT6 := (hT5.kp kA1).tkt k6
                        have hkt6 := (hkt5.kp kA1).trans (TR_TP k6)
                        have hO6 := hO5a.r k6
                        have hA6a := hA6.keeps (hbel.out _ hkt6)
                        have hA5b := ((hA5H.out.kp kA1).kt k6 (by unfold TR; decide) (by unfold TR; decide)).reads
                        have kA2 := (Kp.refl (fun _ => False) w6).alloc (.cells #[.int .i64 r.ask.pin, .slice YV r.ask.vec.length yvn, .slice YA r.ask.al.length yan, .slice YY r.ask.an.length yyn, .slice YN r.ask.no.length ynn, .bool q1, .int .i64 q2, .int .u32 q3] 49)
                        have hSm := Lib.hid (ask_same _ _ _ _ (hA5b.keeps (Keeps.kp kA2)) (hA6a.keeps (Keeps.kp kA2)))
                        have hlr := hG.lr.set hG.inv.nodup ha9 (r' := { r with used := t' }) ha9.num
                        have hinv := hG.inv.set ha9 (r' := { r with used := t' }) rfl htb.out hre9 (hG.inv.small r ha9.mem)
                        have hX6 := Lib.hid (And.intro hT6 (And.intro hR6 (And.intro hkt6 (And.intro hlr (And.intro hinv hO6)))))
                        have hra9 := RAt.set (r' := { r with used := t' }) ha9 ha9.num
                        have hk9' := lookC_set (curOf { r with used := t' }) hk9
                        have hmv := Lib.hid (And.intro hra9 hk9')
                        clear hB1 hT6 hkt6 hO6 hA6a hA5b hlr hinv hra9 hk9' hA6 s1 s2 s3 s4 hO5a kA1
                        go_wp2_with fail
                        refine hSm.out.mono ?_
                        rintro e w7 ⟨rfl, k7⟩
                        have k67 := kA2.trans k7
                        have hG9 := Lib.hid (PlAt.mk (k := k) (m := m) (hX6.out.1.kp k67) (hX6.out.2.1.kp k67) hX6.out.2.2.2.1 hX6.out.2.2.2.2.1 (hX6.out.2.2.1.kp k67))
                        have hO9 := Lib.hid (OpX.kp hX6.out.2.2.2.2.2 k67)
                        obtain ⟨ha9n, hk9n⟩ := hmv.out
                        have hr9n : rightR { r with used := t' } ((p : Int) + 1) = true := hr9
                        have hre9n : 1 ≤ ({ r with used := t' } : RC).ends.length ∧ ({ r with used := t' } : RC).ends.length ≤ k + 1 := hre9
                        have hrs9n : (rs.set i { r with used := t' }).length ≤ 1000 := by simpa using hrs9
                        clear hSm z0 z1 z2 z3 z4 z5 z6 z7 zf k67 k7 kA2 hX6 hGq hOq hG hO hmv ha9 hk9 hr9 hre9 hrs9
                        have hO9c := hO9.out.cells
                        rw [htl] at hO9c
                        obtain ⟨o0, o1, o2, o3, o4, o5, o6, o7, o8, o9, o10, o11⟩ := hO9c
                        cases tl with
                        | false =>
                          go_wp2_with fail
                          go_meet
                          exact ⟨m, _, _, by omega, ⟨hG9.out.tab, hG9.out.ref, hG9.out.lr, hG9.out.inv.mono (by omega), hG9.out.kt⟩⟩
                        | true =>
                          have hA := Lib.hid (told_ok o.n ((p : Int) + 1) (.slice xhA o.hits.length xhc) o.hits hG9.out.tab hk9n (by rw [right_of _ _ hre9n.1 hpgb.out.1]; exact hr9n) hpgb.out.1 hpgb.out.2 (fun w' q => hhits.out.keeps (hbel.out _ (hG9.out.kt.trans (TC_TP q)))))
                          go_wp2_with fail
                          refine hA.out.mono ?_
                          rintro e w10 ⟨rfl, hT10, k10⟩
                          have hR10 := hG9.out.ref.rkt k10
                          have hkt10 := hG9.out.kt.trans (TC_TP k10)
                          have hB10 : w.heap.size ≤ w10.heap.size := hkt10.size
                          have hB := Lib.hid (r14_told_ok p (.slice xhA o.hits.length xhc) o.hits hR10 hB10 ha9n hr9n ⟨hre9n.1, Nat.le_trans hre9n.2 (by omega)⟩ hrs9n hhits.out (hbel.out _ hkt10))
                          have hO10 := hO9.out.c k10
                          clear hA o0 o1 o2 o3 o4 o5 o6 o7 o8 o9 o10 o11
                          have hO10c := hO10.cells
                          rw [htl] at hO10c
                          obtain ⟨o0, o1, o2, o3, o4, o5, o6, o7, o8, o9, o10, o11⟩ := hO10c
                          have hlr := hG9.out.lr.set hG9.out.inv.nodup ha9n (r' := { r with used := t', ends := r.ends.take (p + 1) ++ [newEnd { r with used := t' } p o.hits] }) ha9n.num
                          rw [← told_of _ p o.hits hr9n hre9n.1] at hlr
                          have hinv := (hG9.out.inv.mono (k' := k + 1) (by omega)).set ha9n (r' := { r with used := t', ends := r.ends.take (p + 1) ++ [newEnd { r with used := t' } p o.hits] }) rfl (hG9.out.inv.used { r with used := t' } ha9n.mem) ⟨by simp, by have h2 : r.ends.length ≤ k + 1 := hre9n.2; simp; omega⟩ (hG9.out.inv.small { r with used := t' } ha9n.mem)
                          have hfin := Lib.hid (And.intro hT10 (And.intro hlr (And.intro hinv hkt10)))
                          clear hT10 hlr hinv hR10
                          go_wp2_with fail
                          refine hB.out.mono ?_
                          rintro e w11 ⟨rfl, hR11, k11⟩
                          clear hB o0 o1 o2 o3 o4 o5 o6 o7 o8 o9 o10 o11
                          go_wp2_with fail
                          go_meet
                          exact ⟨m, _, _, by omega, ⟨hfin.out.1.tkt k11, hR11, hfin.out.2.1, hfin.out.2.2.1, hfin.out.2.2.2.trans (TR_TP k11)⟩⟩
                  · have hno := notMine_other hk9 ho
                    cases hr9 : rightR r pg with
                    | false =>
                      as_aux_lemma =>
                        have hT := Lib.hid (take_none ow o.n pg t' hGq.tab hno)
                        go_wp2_with fail
                        refine hT.out.mono ?_
                        rintro e w5 ⟨rfl, k5⟩
                        unfold zAsk
                        have hG5 := hGq.kp k5
                        have hO5 := OpX.kp hOq k5
                        have hG5a := hG5.kp ((Kp.refl _ w5).alloc (.cells zAsk 49))
                        have hT2 := Lib.hid (r14_take_other ow pg t' hG5a.ref ha9 ho hrs9)
                        have hB1 := Blk.new w5 zAsk 49
                        have hO5a := OpX.kp hO5 ((Kp.refl _ w5).alloc (.cells zAsk 49))
                        unfold zAsk at hT2 hO5a
                        clear hT k5 o0 o1 o2 o3 o4 o5 o6 o7 o8 o9 o10 o11
                        obtain ⟨o0, o1, o2, o3, o4, o5, o6, o7, o8, o9, o10, o11⟩ := hO5a.cells
                        go_wp2_with fail
                        refine hT2.out.mono ?_
                        rintro e w6 ⟨rfl, k6⟩
                        clear hT2 o0 o1 o2 o3 o4 o5 o6 o7 o8 o9 o10 o11 hO5a
                        have hB1 := hB1.kp k6 id
                        obtain ⟨z0, z1, z2, z3, z4, z5, z6, z7, zf⟩ := zask_at hB1
                        have hl5 : w5.heap.size < w6.heap.size := hB1.lt
                        have hn5 : ¬ w5.heap.size = w6.heap.size := by omega
                        clear hB1
                        have hG6 := Lib.hid (hG5a.kp k6)
                        have hO6 := Lib.hid (OpX.kp (OpX.kp hO5 ((Kp.refl _ w5).alloc (.cells zAsk 49))) k6)
                        have hSm := Lib.hid (fun (W : World) => ask_same [.int .i64 0, .slice none 0 0, .slice none 0 0, .slice none 0 0, .slice none 0 0, .bool false, .int .i64 0, .int .u32 0] [.int .i64 0, .slice none 0 0, .slice none 0 0, .slice none 0 0, .slice none 0 0, .bool false, .int .i64 0, .int .u32 0] ⟨0, [], [], [], [], false, 0, 0⟩ W (askZ W) (askZ W))
                        clear hG5 hG5a hO5 k6
                        go_wp2_with fail
                        refine (hSm.out _).mono ?_
                        rintro e w7 ⟨rfl, k7⟩
                        have k67 := ((Kp.refl (fun _ => False) w6).alloc (.cells zAsk 49)).trans k7
                        have hG9 := Lib.hid (hG6.out.kp k67)
                        have hO9 := Lib.hid (OpX.kp hO6.out k67)
                        clear hSm z0 z1 z2 z3 z4 z5 z6 z7 zf k67 k7 hG6 hO6 hGq hOq hG hO
                        have hO9c := hO9.out.cells
                        rw [htl] at hO9c
                        obtain ⟨o0, o1, o2, o3, o4, o5, o6, o7, o8, o9, o10, o11⟩ := hO9c
                        cases tl with
                        | false =>
                          go_wp2_with fail
                          go_meet
                          exact ⟨m, _, _, by omega, ⟨hG9.out.tab, hG9.out.ref, hG9.out.lr, hG9.out.inv.mono (by omega), hG9.out.kt⟩⟩
                        | true =>
                          have hA := Lib.hid (told_wrong o.n pg (.slice xhA o.hits.length xhc) hG9.out.tab hk9 (by rw [right_of _ _ hre9.1 hpgb.out.1]; exact hr9) hpgb.out.1 hpgb.out.2)
                          have hB := Lib.hid (r14_told_wrong pg (.slice xhA o.hits.length xhc) hG9.out.ref ha9 hr9 ⟨hre9.1, by omega⟩ hpgb.out hrs9)
                          go_wp2_with fail
                          refine hA.out.mono ?_
                          rintro e w10 ⟨rfl, rfl⟩
                          clear hA
                          go_wp2_with fail
                          refine hB.out.mono ?_
                          rintro e w11 ⟨rfl, k11⟩
                          clear hB
                          go_wp2_with fail
                          go_meet
                          exact ⟨m, _, _, by omega, ⟨hG9.out.tab.kp k11, hG9.out.ref.kp k11, hG9.out.lr, hG9.out.inv.mono (by omega), hG9.out.kt.kp k11⟩⟩
                    | true =>
                      as_aux_lemma =>
                        obtain ⟨p, hp⟩ : ∃ p : Nat, pg = (p : Int) + 1 := by
                          have := hr9
                          unfold rightR at this
                          simp at this
                          exact ⟨(pg - 1).toNat, by omega⟩
                        subst hp
                        have hT := Lib.hid (take_none ow o.n ((p : Int) + 1) t' hGq.tab hno)
                        go_wp2_with fail
                        refine hT.out.mono ?_
                        rintro e w5 ⟨rfl, k5⟩
                        unfold zAsk
                        have hG5 := hGq.kp k5
                        have hO5 := OpX.kp hOq k5
                        have hG5a := hG5.kp ((Kp.refl _ w5).alloc (.cells zAsk 49))
                        have hT2 := Lib.hid (r14_take_other ow ((p : Int) + 1) t' hG5a.ref ha9 ho hrs9)
                        have hB1 := Blk.new w5 zAsk 49
                        have hO5a := OpX.kp hO5 ((Kp.refl _ w5).alloc (.cells zAsk 49))
                        unfold zAsk at hT2 hO5a
                        clear hT k5 o0 o1 o2 o3 o4 o5 o6 o7 o8 o9 o10 o11
                        obtain ⟨o0, o1, o2, o3, o4, o5, o6, o7, o8, o9, o10, o11⟩ := hO5a.cells
                        go_wp2_with fail
                        refine hT2.out.mono ?_
                        rintro e w6 ⟨rfl, k6⟩
                        clear hT2 o0 o1 o2 o3 o4 o5 o6 o7 o8 o9 o10 o11 hO5a
                        have hB1 := hB1.kp k6 id
                        obtain ⟨z0, z1, z2, z3, z4, z5, z6, z7, zf⟩ := zask_at hB1
                        have hl5 : w5.heap.size < w6.heap.size := hB1.lt
                        have hn5 : ¬ w5.heap.size = w6.heap.size := by omega
                        clear hB1
                        have hG6 := Lib.hid (hG5a.kp k6)
                        have hO6 := Lib.hid (OpX.kp (OpX.kp hO5 ((Kp.refl _ w5).alloc (.cells zAsk 49))) k6)
                        have hSm := Lib.hid (fun (W : World) => ask_same [.int .i64 0, .slice none 0 0, .slice none 0 0, .slice none 0 0, .slice none 0 0, .bool false, .int .i64 0, .int .u32 0] [.int .i64 0, .slice none 0 0, .slice none 0 0, .slice none 0 0, .slice none 0 0, .bool false, .int .i64 0, .int .u32 0] ⟨0, [], [], [], [], false, 0, 0⟩ W (askZ W) (askZ W))
                        clear hG5 hG5a hO5 k6
                        go_wp2_with fail
                        refine (hSm.out _).mono ?_
                        rintro e w7 ⟨rfl, k7⟩
                        have k67 := ((Kp.refl (fun _ => False) w6).alloc (.cells zAsk 49)).trans k7
                        have hG9 := Lib.hid (hG6.out.kp k67)
                        have hO9 := Lib.hid (OpX.kp hO6.out k67)
                        clear hSm z0 z1 z2 z3 z4 z5 z6 z7 zf k67 k7 hG6 hO6 hGq hOq hG hO
                        have hO9c := hO9.out.cells
                        rw [htl] at hO9c
                        obtain ⟨o0, o1, o2, o3, o4, o5, o6, o7, o8, o9, o10, o11⟩ := hO9c
                        cases tl with
                        | false =>
                          go_wp2_with fail
                          go_meet
                          exact ⟨m, _, _, by omega, ⟨hG9.out.tab, hG9.out.ref, hG9.out.lr, hG9.out.inv.mono (by omega), hG9.out.kt⟩⟩
                        | true =>
                          have hA := Lib.hid (told_ok o.n ((p : Int) + 1) (.slice xhA o.hits.length xhc) o.hits hG9.out.tab hk9 (by rw [right_of _ _ hre9.1 hpgb.out.1]; exact hr9) hpgb.out.1 hpgb.out.2 (fun w' q => hhits.out.keeps (hbel.out _ (hG9.out.kt.trans (TC_TP q)))))
                          go_wp2_with fail
                          refine hA.out.mono ?_
                          rintro e w10 ⟨rfl, hT10, k10⟩
                          have hR10 := hG9.out.ref.rkt k10
                          have hkt10 := hG9.out.kt.trans (TC_TP k10)
                          have hB10 : w.heap.size ≤ w10.heap.size := hkt10.size
                          have hB := Lib.hid (r14_told_ok p (.slice xhA o.hits.length xhc) o.hits hR10 hB10 ha9 hr9 ⟨hre9.1, Nat.le_trans hre9.2 (by omega)⟩ hrs9 hhits.out (hbel.out _ hkt10))
                          have hO10 := hO9.out.c k10
                          clear hA o0 o1 o2 o3 o4 o5 o6 o7 o8 o9 o10 o11
                          have hO10c := hO10.cells
                          rw [htl] at hO10c
                          obtain ⟨o0, o1, o2, o3, o4, o5, o6, o7, o8, o9, o10, o11⟩ := hO10c
                          have hlr := hG9.out.lr.set hG9.out.inv.nodup ha9 (r' := { r with ends := r.ends.take (p + 1) ++ [newEnd r p o.hits] }) ha9.num
                          rw [← told_of _ p o.hits hr9 hre9.1] at hlr
                          have hinv := (hG9.out.inv.mono (k' := k + 1) (by omega)).set ha9 (r' := { r with ends := r.ends.take (p + 1) ++ [newEnd r p o.hits] }) rfl (hG9.out.inv.used r ha9.mem) ⟨by simp, by have h2 : r.ends.length ≤ k + 1 := hre9.2; simp; omega⟩ (hG9.out.inv.small r ha9.mem)
                          have hfin := Lib.hid (And.intro hT10 (And.intro hlr (And.intro hinv hkt10)))
                          clear hT10 hlr hinv hR10
                          go_wp2_with fail
                          refine hB.out.mono ?_
                          rintro e w11 ⟨rfl, hR11, k11⟩
                          clear hB o0 o1 o2 o3 o4 o5 o6 o7 o8 o9 o10 o11
                          go_wp2_with fail
                          go_meet
                          exact ⟨m, _, _, by omega, ⟨hfin.out.1.tkt k11, hR11, hfin.out.2.1, hfin.out.2.2.1, hfin.out.2.2.2.trans (TR_TP k11)⟩⟩
          · have e1 : (kd == 1) = false := by simp; omega
            have e2 : (kd == 2) = false := by simp; omega
            by_cases hk3 : kd = 3
            · have e3 : (kd == 3) = true := by simp [hk3]
              clear hkd6 hk0 hk12 hk3
              as_aux_lemma =>
                have hrs1000 : rs.length ≤ 1000 := by have := hG.len; omega
                rcases hG.lr.find o.n with ⟨hk0, hno⟩ | ⟨i, r, b, ha, hk0⟩
                · have hC := Lib.hid (close_no ow o.n hG.tab (notMine_none hk0))
                  have hC2 := Lib.hid (r14_close_none ow o.n hG.ref hno hrs1000)
                  clear hk0 hno
                  go_wp2_with fail
                  refine hC.out.mono ?_
                  rintro e w5 ⟨rfl, rfl⟩
                  clear hC
                  go_wp2_with fail
                  refine hC2.out.mono ?_
                  rintro e w6 ⟨rfl, rfl⟩
                  clear hC2
                  go_wp2_with fail
                  go_meet
                  exact ⟨m, _, _, by omega, ⟨hG.tab, hG.ref, hG.lr, hG.inv.mono (by omega), hG.kt⟩⟩
                · by_cases ho : r.owner = ow
                  · have hC := Lib.hid (close_ok ow hG.tab hk0 ho)
                    go_wp2_with fail
                    refine hC.out.mono ?_
                    rintro e w5 ⟨rfl, hT5, k5⟩
                    have hR5 := hG.ref.rkt k5
                    have hO5 := hO.c k5
                    have hC2 := Lib.hid (r14_close_ok ow hR5 (Nat.le_trans hBw k5.size) ha ho hrs1000)
                    have haH := Lib.hid ha
                    clear hC o0 o1 o2 o3 o4 o5 o6 o7 o8 o9 o10 o11 hO hR5 ha
                    obtain ⟨o0, o1, o2, o3, o4, o5, o6, o7, o8, o9, o10, o11⟩ := hO5.cells
                    go_wp2_with fail
                    refine hC2.out.mono ?_
                    rintro e w6 ⟨rfl, hR6, k6⟩
                    have hpin : ((curOf r).ask.pin != r.ask.pin) = false := by simp [curOf]
                    have hG6 := Lib.hid (PlAt.mk (k := k + 1) (m := m) (hT5.tkt k6) hR6 (hG.lr.del hG.inv.nodup haH.out) ((hG.inv.erase i).mono (by omega)) ((hG.kt.trans (TC_TP k5)).trans (TR_TP k6)))
                    clear hC2 hT5 hR6 hG hk0 o0 o1 o2 o3 o4 o5 o6 o7 o8 o9 o10 o11
                    go_wp2_with fail
                    go_meet
                    exact ⟨m, _, _, by omega, hG6.out⟩
                  · have hC := Lib.hid (close_no ow o.n hG.tab (notMine_other hk0 ho))
                    have hC2 := Lib.hid (r14_close_other ow hG.ref ha ho hrs1000)
                    clear hk0 ha ho
                    go_wp2_with fail
                    refine hC.out.mono ?_
                    rintro e w5 ⟨rfl, rfl⟩
                    clear hC
                    go_wp2_with fail
                    refine hC2.out.mono ?_
                    rintro e w6 ⟨rfl, rfl⟩
                    clear hC2
                    go_wp2_with fail
                    go_meet
                    exact ⟨m, _, _, by omega, ⟨hG.tab, hG.ref, hG.lr, hG.inv.mono (by omega), hG.kt⟩⟩
            · have e3 : (kd == 3) = false := by simpa using hk3
              by_cases hk4 : kd = 4
              · have e4 : (kd == 4) = true := by simp [hk4]
                clear hkd6 hk0 hk12 hk3 hk4
                as_aux_lemma =>
                  have hrs1000 : rs.length ≤ 1000 := by have := hG.len; omega
                  have hC := Lib.hid (prog_leave ow hG.tab hBw hG.rise (by have := hG.len; omega))
                  go_wp2_with fail
                  refine hC.out.mono ?_
                  rintro e w5 ⟨v5, rfl, hP5, hT5, k5⟩
                  have hR5 := hG.ref.rkt k5
                  have hC2 := Lib.hid (r14_leave ow hR5 (Nat.le_trans hBw k5.size) hrs1000)
                  clear hC o0 o1 o2 o3 o4 o5 o6 o7 o8 o9 o10 o11 hO hR5
                  go_wp2_with fail
                  refine hC2.out.mono ?_
                  rintro e w6 ⟨v6, rfl, hP6, hR6, k6⟩
                  have hS : ∀ r, (leaveS ow) (curOf r) = (leaveR ow) r := fun r => rfl
                  have hP5' := OwnP.ints (OwnR.kt hP5 k6 (by unfold TR; decide))
                  rw [hG.lr.pins hS] at hP5'
                  have hI := Lib.hid (ints11_same v5 v6 _ w6 hP5' (OwnP.ints hP6))
                  have hG6 := Lib.hid (PlAt.mk (k := k + 1) (m := m) (hT5.tkt k6) hR6 (hG.lr.filter (S := fun c => !(leaveS ow) c) (S' := fun r => !(leaveR ow) r) (fun r => by rw [hS])) ((hG.inv.filter _).mono (by omega)) ((hG.kt.trans (TC_TP k5)).trans (TR_TP k6)))
                  clear hC2 hT5 hR6 hG hP5 hP6 hP5' hS
                  go_wp2_with fail
                  refine hI.out.mono ?_
                  rintro e w7 ⟨rfl, k7⟩
                  clear hI
                  go_wp2_with fail
                  go_meet
                  exact ⟨m, _, _, by omega, hG6.out.kp k7⟩
              · have e4 : (kd == 4) = false := by simpa using hk4
                clear hkd6 hk0 hk12 hk3 hk4
                as_aux_lemma =>
                  have hrs1000 : rs.length ≤ 1000 := by have := hG.len; omega
                  have hC := Lib.hid (prog_tick t' hG.tab hBw hG.rise (by have := hG.len; omega) htb.out hG.used)
                  go_wp2_with fail
                  refine hC.out.mono ?_
                  rintro e w5 ⟨v5, rfl, hP5, hT5, k5⟩
                  have hR5 := hG.ref.rkt k5
                  have hC2 := Lib.hid (r14_tick t' hR5 (Nat.le_trans hBw k5.size) hrs1000 htb.out hG.inv.used hidle.out)
                  clear hC o0 o1 o2 o3 o4 o5 o6 o7 o8 o9 o10 o11 hO hR5
                  go_wp2_with fail
                  refine hC2.out.mono ?_
                  rintro e w6 ⟨v6, rfl, hP6, hR6, k6⟩
                  have hS : ∀ r, (tickS idle t') (curOf r) = (tickR idle t') r := fun r => tick_of hidle.out htb.out r
                  have hP5' := OwnP.ints (OwnR.kt hP5 k6 (by unfold TR; decide))
                  rw [hG.lr.pins hS] at hP5'
                  have hI := Lib.hid (ints11_same v5 v6 _ w6 hP5' (OwnP.ints hP6))
                  have hG6 := Lib.hid (PlAt.mk (k := k + 1) (m := m) (hT5.tkt k6) hR6 (hG.lr.filter (S := fun c => !(tickS idle t') c) (S' := fun r => !(tickR idle t') r) (fun r => by rw [hS])) ((hG.inv.filter _).mono (by omega)) ((hG.kt.trans (TC_TP k5)).trans (TR_TP k6)))
                  clear hC2 hT5 hR6 hG hP5 hP6 hP5' hS
                  go_wp2_with fail
                  refine hI.out.mono ?_
                  rintro e w7 ⟨rfl, k7⟩
                  clear hI
                  go_wp2_with fail
                  go_meet
                  exact ⟨m, _, _, by omega, hG6.out.kp k7⟩
      case rest =>
        as_aux_lemma =>
          clear hG hX hsmH hbel hkd how ht' hvl hO hl80 o0 o1 o2 o3 o4 o5 o6 o7 o8 o9 o10 o11
          obtain ⟨m, l, rs, hmk, hG⟩ := hcut
          obtain ⟨AT, capT, q1, -, -⟩ := hG.ref.slice
          have hll : l.length = rs.length := hG.len.1
          have hL : Hid (∀ W : World, Kp (fun _ => False) wc W → Calls Try.prog 33 #[.pointer (some ⟨bt, 0, none⟩)] W fun e w' => e = .returned (.int .i64 rs.length) ∧ w' = W) := fun W h => by
            rw [← hll]
            exact (tab_len W (hG.tab.kp h)).mono fun _ _ h => ⟨h.1, h.2.symm⟩
          clear hll
          go_wp2_with fail
          go_quiet (first | (go_at_call 33; refine Calls.quiet_of_same (hL.out _ (Kp.refl _ _))) | (go_at_call 33; refine Calls.quiet_of_same (hL.out _ (Kp.drewN (Kp.refl _ _) _))) | (go_at_call 33; refine Calls.quiet_of_same (hL.out _ (Kp.drew (Kp.refl _ _)))))
          go_wp2_with fail
          go_roundw
          case rel => exact ⟨k + 1, m, l, rs, t', by omega, by omega, by omega, by go_num, rfl, htb.out.1, htb.out.2, hG.kp ((Kp.refl _ _).drewN _)⟩
          case measure => simp [intOf]; omega
    · by_cases hl1 : k < ol.length
      · have hl80 : decide ((k : Int) < 80) = false := decide_eq_false (by omega)
        clear hlt
        go_wp2_with fail
        go_ret
        exact ⟨rfl, hG.kt.below (Nat.le_refl _)⟩
      · clear hlt
        have hkE : k = ol.length := by omega
        subst hkE
        have e1 : decide (ol.length < ol.length) = false := by simp
        go_wp2_with fail
        go_ret
        exact ⟨rfl, hG.kt.below (Nat.le_refl _)⟩
end Go.Proofs.Ytcamhpjgpjihhaa

/- DedupPlays: whatever is asked, kept and acknowledged, each answer is the document's: the walk. -/
import Derived.Test.YtnjkoapkgoiljaaDedupBoth
namespace Go.Proofs.Ytnjkoapkgoiljaa
open Go.RowKit

theorem load69 (ρ : Operand → Value) (dst : Option Tmp) (x : Operand) (ty : TypeId) (pos : String) (after : Array Edge) (gd : Option (Nat × Bool)) (w : World)
    (hp : isPtrA (ρ x) = true) (h : (rdAt w (adrOf (ρ x)) 30).isSome = true) : (execOp ρ ⟨dst, .load 69 x, ty, pos, after, gd⟩).run Try.prog w = .ok (.value (.agg ((rdAt w (adrOf (ρ x)) 30).getD #[]))) w :=
  ex_load_at (P := Try.prog) Try.underlying69 rfl (by kernel_rfl) ρ dst x ty pos after gd w hp h
theorem store69 (ρ : Operand → Value) (dst : Option Tmp) (x y : Operand) (ty : TypeId) (pos : String) (after : Array Edge) (gd : Option (Nat × Bool)) (w : World)
    (hp : isPtr0 (ρ x) = true) (hy : isAggV (ρ y) = true) (h : (rowOf w (blkOf (ρ x))).size = 30) (hc : (ρ y).cells.size = 30) (h1 : oneB (ρ y).cells = true) :
    (execOp ρ ⟨dst, .store 69 x y, ty, pos, after, gd⟩).run Try.prog w = .ok .skip (w.setRow (blkOf (ρ x)) (ρ y).cells) :=
  ex_store (P := Try.prog) (by kernel_rfl) (by decide) ρ dst x y ty pos after gd w hp hy h hc h1
def zOp : Array Value := #[.int .u8 0, .int .u32 0] ++ zMsg
theorem zOp_size : zOp.size = 30 := rfl
theorem alloc69 (ρ : Operand → Value) (dst : Option Tmp) (ty : TypeId) (pos : String) (after : Array Edge) (gd : Option (Nat × Bool)) (w : World) :
    (execOp ρ ⟨dst, .alloc 69, ty, pos, after, gd⟩).run Try.prog w = .ok (.value (.pointer (some ⟨w.heap.size, 0, none⟩))) (w.alloc (.cells zOp 69)) :=
  ex_alloc (P := Try.prog) (fun w => by kernel_rfl) ρ dst ty pos after gd w
attribute [local go_sem ↓] load67 load67at store67 alloc67 build67 build67_5 build67_14 build67_5c build67_14c load69 store69 alloc69
attribute [local go_sem] rowOf_new rowOf_drew rowOf_setCell setRow_alloc isPtr0_ptr blkOf_ptr isAggV_agg cells_agg zMsg_size zMsg_one mset_size mset_one mset5 mset21 isU32_int isPtrA_ptr adrOf_ptr zOp_size

def DpReq (w : World) (b r c : Nat) (ms : List (List Value)) (A : Int) (s : Value) (wr : World) : Prop := ∃ R : Int, s = .int .u32 R ∧ 0 ≤ R ∧ R < 4294967296 ∧ DpSt w b r c ms A wr

set_option maxRecDepth 100000 in
set_option maxHeartbeats 4000000 in
theorem dedupPlays_walk (v0 : Value) (w : World) (h0 : Came Try.prog w 51 v0) :
    Calls Try.prog 11 #[v0] w fun e w' => e = .returned (.bool true) ∧ Below w.heap.size w w' := by
  obtain ⟨A, len, cap, rfl, hs⟩ := OpsP.of_came h0
  have hm : len ≤ 9223372036854775807 := by have := hs.1; unfold maxLen at this; omega
  clear h0
  go_enter Try.func11, Try.ntmps11
  go_wp2_with fail
  refine (dedup_alive _).mono ?_
  rintro e w1 ⟨rfl, k1⟩
  go_wp2_with fail
  refine (tab_new _).mono ?_
  rintro e w2 ⟨rfl, hT, k2⟩
  have kk := (k1.trans k2).below
  have g1 := k1.size
  have hb1 := hT.1.lt
  have hb0 : w.heap.size ≤ w1.heap.size + 1 := by omega
  have hrb : w1.heap.size < w1.heap.size + 1 := by omega
  have hr0 : w.heap.size ≤ w1.heap.size := by omega
  generalize w1.heap.size + 1 = b at *
  generalize w1.heap.size = r at *
  clear k1 k2
  have hst : DpSt w b r w2.heap.size [] 0 (w2.alloc (.cells #[.slice none 0 0, .int .i64 0] 81)) :=
    ⟨by omega, by simp, by simp, hT.alloc _, ⟨.slice none 0 0, Blk.new _ _ _, World.ownsRow_nil _ _ _ _, by simp⟩, by simp, kk.alloc kk.size _⟩
  have hap : Apart w b r w2.heap.size := ⟨hb0, hr0, kk.size, by omega, by omega, by omega⟩
  have hcs : w2.heap.size < (w2.alloc (.cells #[.slice none 0 0, .int .i64 0] 81)).heap.size := by simp
  clear hT kk hb1
  go_wp2_with fail
  generalize w2.heap.size = c at *
  go_loopw [5] (fun i wr => DpRel w b r c len i wr) (fun i _ => 100 - (intOf i).toNat)
  case atStart => exact ⟨0, [], 0, rfl, by omega, by omega, by simp, hst⟩
  case round =>
    clear hst
    obtain ⟨k, ms, Ak, rfl, hk1, hk2, hDk, hst⟩ := hrel
    by_cases hlt : k < len ∧ k < 100
    · obtain ⟨hl1, hl2⟩ := hlt
      obtain ⟨b0, off, kd, far, m, x, rfl, hb0', hrd0, hml, h1, hx, hk0, hk256, hf0, hf1⟩ := hs.2 k hl1
      have hrd := rdAt_keeps hrd0 (Keeps.below hst.below)
      have hsz2 : (#[Value.int .u8 kd, .int .u32 far] ++ m.toArray).size = 30 := by simp [hml]
      have h12 : oneB (#[Value.int .u8 kd, .int .u32 far] ++ m.toArray) = true := by
        unfold oneB at h1 ⊢
        simpa [Value.oneCell'] using h1
      have hnew := Blk.new wr (#[Value.int .u8 kd, .int .u32 far] ++ m.toArray) 69
      have hst' := hst.quiet ((Kp.refl _ _).alloc (.cells (#[Value.int .u8 kd, .int .u32 far] ++ m.toArray) 69))
      have hsz := hst.below.size
      have hx' := MsgR.keeps (Keeps.below hst'.below) m x hx
      generalize hes : #[Value.int .u8 kd, .int .u32 far] ++ m.toArray = es at *
      have hmr : rdAt (wr.alloc (.cells es 69)) ⟨wr.heap.size, 2, none⟩ 28 = some m.toArray := by
        have := rdAt_of (w := wr.alloc (.cells es 69)) (a := ⟨wr.heap.size, 2, none⟩) (es := m) (fun j hj => by
          rw [add_form, hnew.cell (2 + j), ← hes, Array.getElem?_append_right (by simp)]
          simp)
        rwa [hml] at this
      have he0 : (wr.alloc (.cells es 69)).cell? ⟨wr.heap.size, 0, none⟩ = some (.int .u8 kd) := (hnew.cell 0).trans (by rw [← hes]; simp)
      have he1 : (wr.alloc (.cells es 69)).cell? ⟨wr.heap.size, 1, none⟩ = some (.int .u32 far) := (hnew.cell 1).trans (by rw [← hes]; simp)
      have hd100 : decide ((k : Int) < 100) = true := by simp; omega
      have hes := Lib.hid hes
      have hxH := Lib.hid hx
      obtain ⟨v0', hv0'⟩ := hst.ref
      have l1 := hv0'.1.lt
      have l2 := hst.tab.1.lt
      have l3 := hst.tab.2.lt
      have hoc : wr.heap.size ≠ c := by omega
      have hob : wr.heap.size ≠ b := by omega
      have hor : wr.heap.size ≠ r := by omega
      clear hrd0 hst hx hv0' l1 l2 l3
      go_wp2_with fail
      refine (msg_great _ x _ hx').mono ?_
      rintro e w3 ⟨g, rfl, hg, k3⟩
      have hst := hst'.quiet k3
      have K3 := Keeps.kp k3
      have he0 := K3 _ _ he0
      have he1 := K3 _ _ he1
      have hmr := rdAt_keeps hmr K3
      have hO := hnew.kp k3 id
      generalize wr.heap.size = o at *
      have hsz3 := hst.below.size
      clear k3 K3 hst' hx' hnew
      cases g
      case true =>
        have hbw := hst.below
        clear hst hg
        go_wp2_with fail
        go_ret
        exact ⟨rfl, hbw⟩
      clear hg
      have hD1 : ms.length ≤ 100 := by omega
      go_upto_block 2 with fail
      go_cut [] (fun wx => DpCut w b r c k wx)
      case first =>
        have hkd : kd % 3 = 0 ∨ kd % 3 = 1 ∨ kd % 3 = 2 := by omega
        rcases hkd with h | h | h
        · have e0 : (kd % 3 == 0) = true := by simp [h]
          clear h hO hmr he0 hrd hs
          obtain ⟨v, hR⟩ := hst.ref
          obtain ⟨vA, vcap, rfl⟩ := hR.slice
          have c0 : w3.cell? ⟨c, 0, none⟩ = some (.slice vA ms.length vcap) := (hR.1.cell 0).trans rfl
          clear hR
          go_upto_if 61 with fail
          go_cut [7] (fun s wx => DpReq w b r c ms Ak s wx)
          case first =>
            by_cases hf : 1000 < far
            · go_wp2_with fail
              go_meet
              exact ⟨_, rfl, by omega, by omega, hst⟩
            · go_wp2_with fail
              go_meet
              exact ⟨far, rfl, hf0, hf1, hst⟩
          case rest =>
            clear c0 he1 hst
            obtain ⟨R, rfl, hR0, hR1, hst⟩ := hcut
            obtain ⟨a, n, ha, ha1, hn0, hn1, H34, H37, H38⟩ := ask_both hst R hR0 hR1 hD1
            have H34 := Lib.hid (H34 _ hst)
            have H37 := Lib.hid H37
            have H38 := Lib.hid H38
            have hnn : (n != n) = false := by simp
            have hRi : -9223372036854775808 ≤ R ∧ R ≤ 9223372036854775807 := by omega
            go_wp2_with fail
            refine H34.out.mono ?_
            rintro e w4 ⟨rfl, k4⟩
            have hst4 := (hst.quiet k4).quiet ((Kp.refl _ _).alloc (.cells a 67))
            clear H34 hst k4
            go_wp2_with fail
            refine (H37.out _ hst4).mono ?_
            rintro e w5 ⟨rfl, k5⟩
            have hr5 : rowOf w5 w4.heap.size = a := ((Blk.new w4 a 67).kp k5 id).row
            have hlt5 : w4.heap.size < w5.heap.size := by have := k5.size; simp at this; omega
            have hr6 : rowOf (w5.alloc (.cells a 67)) w4.heap.size = a := (rowOf_alloc _ _ _ hlt5).trans hr5
            have hst5 := (hst4.quiet k5).quiet ((Kp.refl _ _).alloc (.cells a 67))
            clear hst4 k5 H37 hr5
            go_wp2_with fail
            refine (H38.out _ hst5).mono ?_
            rintro e w6 ⟨rfl, k6⟩
            have hfin : DpCut w b r c k w6 := ⟨ms, Ak, by omega, hst5.quiet k6⟩
            clear H38 hst5 k6 hr6 hlt5
            go_wp2
            go_meet
            exact hfin
        · have e0 : (kd % 3 == 0) = false := by simp [h]
          have e1 : (kd % 3 == 1) = true := by simp [h]
          clear h he0 hrd hs
          obtain ⟨v, hR⟩ := hst.ref
          obtain ⟨vA, vcap, rfl⟩ := hR.slice
          have c0 : w3.cell? ⟨c, 0, none⟩ = some (.slice vA ms.length vcap) := (hR.1.cell 0).trans rfl
          clear hR
          obtain ⟨q, hq, hq0, hq1⟩ : ∃ q, IntKind.u32.wrap ((ms.length : Int) + 1 + far) = q ∧ 0 ≤ q ∧ q < 4294967296 := ⟨_, rfl, by rw [IntKind.wrap_u32]; omega, by rw [IntKind.wrap_u32]; omega⟩
          have wk1 : IntKind.u32.wrap (ms.length : Int) = (ms.length : Int) := IntWalk.u32_in _ ⟨by omega, by omega⟩
          have wk2 : IntKind.u32.wrap ((ms.length : Int) + 1) = (ms.length : Int) + 1 := IntWalk.u32_in _ ⟨by omega, by omega⟩
          have wk3 : IntKind.i64.wrap q = q := IntWalk.i64_in _ ⟨by omega, by omega⟩
          obtain ⟨n, HK⟩ := keep_both (wr := w3.drew.drew) (hst.quiet (((Kp.refl _ _).drew).drew)) hap hO hmr hxH.out q hq0 hq1 (by omega) hoc hob hor
          have HK := Lib.hid HK
          have hnn : (n != n) = false := by simp
          have hmr2 : rdAt w3.drew ⟨o, 2, none⟩ 28 = some m.toArray := hmr
          clear hst hO hq0 hq1
          go_wp2_with fail
          go_region_held3 (fun w' => w'.cell? ⟨c, 0, none⟩ = some (.slice vA ms.length vcap) ∧ w'.cell? ⟨o, 1, none⟩ = some (.int .u32 far)) (first | exact ⟨c0, he1⟩ | go_keep) (fail)
          clear wk1 wk2 hq c0 he1
          go_wp2_with fail
          go_region_held3 (fun w' => rdAt w' ⟨o, 2, none⟩ 28 = some m.toArray) (first | exact hmr | exact hmr2 | exact d5 | exact d4 | go_keep)
            (first | (go_at_call 31; refine HK.out.mono ?_; rintro e w4 ⟨rfl, d4, HK2⟩; replace HK2 := Lib.hid HK2) | (go_at_call 39; refine HK2.out.mono ?_; rintro e w5 ⟨rfl, d5, hend⟩))
          obtain ⟨ms', hm', hst'⟩ := hend
          have hfin : DpCut w b r c k w5 := ⟨ms', Ak, by omega, hst'⟩
          clear HK HK2 d4 d5 hst' hmr hmr2 wk3
          go_wp2
          go_meet
          exact hfin
        · have e0 : (kd % 3 == 0) = false := by simp [h]
          have e1 : (kd % 3 == 1) = false := by simp [h]
          clear h hO hmr he0 hrd hs
          obtain ⟨v, hR⟩ := hst.ref
          obtain ⟨vA, vcap, rfl⟩ := hR.slice
          have c0 : w3.cell? ⟨c, 0, none⟩ = some (.slice vA ms.length vcap) := (hR.1.cell 0).trans rfl
          clear hR
          obtain ⟨q, hq, hq0, hq1⟩ : ∃ q, IntKind.u32.wrap ((ms.length : Int) - far) = q ∧ 0 ≤ q ∧ q < 4294967296 := ⟨_, rfl, by rw [IntKind.wrap_u32]; omega, by rw [IntKind.wrap_u32]; omega⟩
          have wk1 : IntKind.u32.wrap (ms.length : Int) = (ms.length : Int) := IntWalk.u32_in _ ⟨by omega, by omega⟩
          have hqi : -9223372036854775808 ≤ q ∧ q ≤ 9223372036854775807 := by omega
          obtain ⟨n, HK⟩ := ack_both (wr := w3.drew) (hst.quiet ((Kp.refl _ _).drew)) hap q hq0 hq1 (by omega)
          have HK := Lib.hid HK
          have hnn : (n != n) = false := by simp
          clear hst
          go_wp2_with fail
          go_region_held3 (fun w' => w'.cell? ⟨c, 0, none⟩ = some (.slice vA ms.length vcap) ∧ w'.cell? ⟨o, 1, none⟩ = some (.int .u32 far)) (first | exact ⟨c0, he1⟩ | go_keep) (fail)
          clear wk1 hq c0 he1
          go_wp2_with fail
          refine HK.out.mono ?_
          rintro e w4 ⟨rfl, HK2⟩
          replace HK2 := Lib.hid HK2
          go_wp2_with fail
          refine HK2.out.mono ?_
          rintro e w5 ⟨rfl, A', hst'⟩
          have hfin : DpCut w b r c k w5 := ⟨ms, A', by omega, hst'⟩
          clear HK HK2 hst'
          go_wp2
          go_meet
          exact hfin
      case rest =>
        clear hst he0 he1 hmr hO hrd hs
        obtain ⟨ms, Ak, hDk, hst⟩ := hcut
        have hA := hst.tab
        obtain ⟨v, hR⟩ := hst.ref
        obtain ⟨vA, vcap, rfl⟩ := hR.slice
        have c0 : wc.cell? ⟨c, 0, none⟩ = some (.slice vA ms.length vcap) := (hR.1.cell 0).trans rfl
        have c1 : wc.cell? ⟨c, 1, none⟩ = some (.int .i64 Ak) := (hR.1.cell 1).trans rfl
        have hTd : TabAt wc.drew b r ms.length Ak (Ents (fM ms) Ak ((ms.length : Int) - Ak).toNat) := hA
        have hlo := hst.lo
        have hhi := hst.hi
        have hl1' : (Ents (fM ms) Ak ((ms.length : Int) - Ak).toNat).length = ((ms.length : Int) - Ak).toNat := (Ents.keys _ _ _).len
        have hle : ((Ents (fM ms) Ak ((ms.length : Int) - Ak).toNat).length : Int) = (ms.length : Int) - Ak := by omega
        have hHL := Lib.hid hle
        clear hle hl1' hR
        have n1 : ((ms.length : Int) != (ms.length : Int)) = false := by simp
        have n2 : (Ak != Ak) = false := by simp
        have n3 : ((ms.length : Int) - Ak != (ms.length : Int) - Ak) = false := by simp
        have e3 : IntKind.i64.wrap ((ms.length : Int) - Ak) = (ms.length : Int) - Ak := IntWalk.i64_in _ ⟨by omega, by omega⟩
        have e4 : IntKind.i64.wrap (ms.length : Int) = (ms.length : Int) := IntWalk.i64_in _ ⟨by omega, by omega⟩
        have e5 : IntKind.i64.wrap Ak = Ak := IntWalk.i64_in _ ⟨by omega, by omega⟩
        go_wp2_with fail
        go_region_held3 (fun w' => w'.cell? ⟨c, 0, none⟩ = some (.slice vA ms.length vcap) ∧ w'.cell? ⟨c, 1, none⟩ = some (.int .i64 Ak)) (first | exact ⟨c0, c1⟩ | go_keep)
          (first | (go_at_call 30; refine (tab_done _ _ _ _ _ _ hTd).mono ?_; rintro e w' ⟨rfl, rfl⟩) | (go_at_call 35; refine (tab_acked _ _ _ _ _ _ hTd).mono ?_; rintro e w' ⟨rfl, rfl⟩) | (go_at_call 33; refine (tab_len _ _ _ _ _ _ hTd).mono ?_; rintro e w' ⟨rfl, rfl⟩; rw [hHL.out]))
        have hst := hst.quiet (Kp.refl _ _).drew
        clear hTd c0 c1 e3 e4 e5 n1 n2 n3 hA
        go_wp2_with fail
        go_roundw
        case rel => exact ⟨k + 1, ms, Ak, by go_num, by omega, by omega, by omega, hst⟩
        case measure => simp [intOf]; omega
    · have hcase : (decide (k < len) = false) ∨ ((decide (k < len) = true) ∧ ¬ (k : Int) < 100) := by
        by_cases h : k < len
        · exact .inr ⟨by simpa using h, by omega⟩
        · exact .inl (by simpa using h)
      have hbw := hst.below
      clear hlt hst
      rcases hcase with hl | ⟨hl, hl2⟩
      all_goals
        go_wp2_with fail
        go_ret
        exact ⟨rfl, hbw⟩
end Go.Proofs.Ytnjkoapkgoiljaa

/- DedupFull: just so many answers are kept; as soon as one is acknowledged there is room for one: the walk. -/
import Derived.Test.YtnjkoapkgoiljaaDedupAlive
import Derived.Test.YtnjkoapkgoiljaaDedupLists
import Derived.Test.YtnjkoapkgoiljaaCame
namespace Go.Proofs.Ytnjkoapkgoiljaa
open Go.RowKit
attribute [local go_sem ↓] load67 store67 alloc67 build67 build67_5 build67_14 build67_5c build67_14c
attribute [local go_sem] rowOf_new rowOf_drew rowOf_setCell setRow_alloc isPtr0_ptr blkOf_ptr isAggV_agg cells_agg zMsg_size zMsg_one mset_size mset_one mset5 mset21 isU32_int

theorem u8d {n : Int} (h : (Lit.int .u8 n).wf = true) : 0 ≤ n ∧ n < 256 := by
  have := bounds_u8 h
  omega

/-- So many are done, so many acknowledged, the rest kept. -/
def Tabs (w : World) (b r : Nat) (done acked : Int) (k : Nat) (wr : World) : Prop :=
  ∃ m, TabAt wr b r done acked m ∧ KeysIs m acked k ∧ done = acked + k ∧ Below w.heap.size w wr

def DfRel1 (w : World) (b r : Nat) (i : Value) (wr : World) : Prop := ∃ k : Nat, k ≤ 16 ∧ i = .int .u32 (k + 1) ∧ Tabs w b r k 0 k wr
def DfRel2 (w : World) (b r : Nat) (q : Int) (i : Value) (wr : World) : Prop := ∃ k : Nat, (k : Int) ≤ q ∧ i = .int .i64 k ∧ Tabs w b r 16 0 16 wr
def DfRel3 (w : World) (b r : Nat) (n : Int) (i : Value) (wr : World) : Prop := ∃ k : Nat, (k : Int) ≤ n ∧ i = .int .u32 k ∧ Tabs w b r (16 + k) n (16 - n + k).toNat wr

set_option maxRecDepth 100000 in
set_option maxHeartbeats 2000000 in
theorem dedupFull_walk (v0 v1 : Value) (w : World) (h0 : Came Try.prog w 5 v0) (h1 : Came Try.prog w 5 v1) :
    Calls Try.prog 12 #[v0, v1] w fun e w' => e = .returned (.bool true) ∧ Below w.heap.size w w' := by
  obtain ⟨more, rfl, hmo⟩ := Came.int Try.underlying5 h0
  obtain ⟨acks, rfl, hac⟩ := Came.int Try.underlying5 h1
  have hmo := u8d hmo
  have hac := u8d hac
  clear h0 h1
  go_enter Try.func12, Try.ntmps12
  go_wp2_with fail
  refine (dedup_alive _).mono ?_
  rintro e w1 ⟨rfl, k1⟩
  go_wp2_with fail
  refine (tab_new _).mono ?_
  rintro e w2 ⟨rfl, hT, k2⟩
  have kk := (k1.trans k2).below
  have g1 := k1.size
  have hb0 : w.heap.size ≤ w1.heap.size + 1 := by omega
  generalize w1.heap.size + 1 = b at *
  generalize w1.heap.size = r at *
  clear k1 k2
  have hS : ∀ i, (i = b ∨ i = r) → w.heap.size ≤ i := by omega
  have hst : Tabs w b r 0 0 0 w2 := ⟨[], hT, KeysIs.nil 0, by omega, kk⟩
  clear hT kk
  go_wp2_with fail
  go_loopw [6] (fun i wr => DfRel1 w b r i wr) (fun i _ => 17 - (intOf i).toNat)
  case atStart => exact ⟨0, by omega, rfl, hst⟩
  case round =>
    clear hst
    obtain ⟨k, hk, rfl, m, hT, hK, hd, hbw⟩ := hrel
    have hD := Lib.hid hd
    clear hd
    by_cases hlt : k < 16
    · go_wp2_with fail
      refine (tab_keep _ _ _ _ _ _ _ _ hT (by omega) (by omega) (by omega) (by rw [hK.len]; omega) (mset_size _ _)).mono ?_
      rintro e w3 ⟨rfl, hT3, k3⟩
      have hb3 := k3.below_of hbw hbw.size hS
      have hK3 := hK.put (.agg (mset 21 (.int .u32 ((k : Int) + 1))))
      have hst : Tabs w b r ((k + 1 : Nat) : Int) 0 (k + 1) w3 := ⟨_, by rw [show ((k + 1 : Nat) : Int) = (k : Int) + 1 by omega]; exact hT3, by rw [show (0 : Int) + k + 1 = k + 1 by omega] at hK3; exact hK3, by omega, hb3⟩
      clear hT hT3 hK hK3 k3 hb3 hbw
      go_wp2
      go_roundw
      case rel => exact ⟨k + 1, by omega, by go_num, hst⟩
      case measure => simp [intOf]; omega
    · obtain rfl : k = 16 := by omega
      have hst : Tabs w b r 16 0 16 wr := ⟨m, hT, hK, by omega, hbw⟩
      clear hT hK hD hbw hlt hk
      rw [show ((16 : Nat) : Int) + 1 = 17 from rfl]
      go_wp2_with fail
      have hq : 0 ≤ more % 4 ∧ more % 4 < 4 := by omega
      go_loopw [7] (fun i wr => DfRel2 w b r (more % 4) i wr) (fun i _ => 4 - (intOf i).toNat)
      case atStart => exact ⟨0, by omega, rfl, hst⟩
      case round =>
        clear hst
        obtain ⟨k, hk, rfl, m, hT, hK, hd, hbw⟩ := hrel
        have hD := Lib.hid hd
        clear hd
        by_cases hlt : (k : Int) < more % 4
        · go_wp2_with fail
          refine (tab_keep_full _ _ _ _ _ 17 _ _ hT (by omega) (by omega) (by omega) (by rw [hK.len]; omega)).mono ?_
          rintro e w3 ⟨rfl, rfl⟩
          have hst : Tabs w b r 16 0 16 (wr.alloc (.cells zMsg 67)) := ⟨m, hT.alloc _, hK, hD.out, hbw.alloc hbw.size _⟩
          clear hT hK hbw hD
          go_wp2
          go_roundw
          case rel => exact ⟨k + 1, by omega, by go_num, hst⟩
          case measure => simp [intOf]; omega
        · have hn : 0 ≤ acks % 17 ∧ acks % 17 < 17 := by omega
          have hm0 : ∀ p ∈ m, (0 : Int) < p.1 := fun p hp => (hK.mem p hp).1
          go_wp2_with fail
          refine (tab_ack _ _ _ _ _ _ _ hT (by omega) (by omega) (by omega) hn.1 hm0).mono ?_
          rintro e w3 ⟨rfl, a, ha, hT3, k3⟩
          obtain rfl : a = acks % 17 := by rw [ha, if_pos hn.1]
          have hb3 := k3.below_of hbw hbw.size hS
          have hK3 := hK.kept (acks % 17) hn.1 (by omega)
          have hlen : Hid (((Kept m (acks % 17)).length : Int) = 16 - acks % 17) := by unfold Hid; rw [hK3.len]; omega
          clear hT hK hbw hm0 k3 ha hD
          go_wp2_with fail
          refine (tab_len _ _ _ _ _ _ hT3).mono ?_
          rintro e w4 ⟨rfl, rfl⟩
          rw [hlen.out]
          have hnn : (16 - acks % 17 != 16 - acks % 17) = false := by simp
          have hst : Tabs w b r (16 + ((0 : Nat) : Int)) (acks % 17) (16 - acks % 17 + ((0 : Nat) : Int)).toNat w3 := ⟨_, by simpa using hT3, by
            have := hK3
            rw [show (0 : Int) + ((16 : Nat) : Int) - acks % 17 = 16 - acks % 17 + ((0 : Nat) : Int) by omega] at this
            exact this, by omega, hb3⟩
          clear hT3 hK3 hlen hb3
          go_wp2_with fail
          go_loopw [9] (fun i wr => DfRel3 w b r (acks % 17) i wr) (fun i _ => 17 - (intOf i).toNat)
          case atStart => exact ⟨0, by omega, rfl, hst⟩
          case round =>
            clear hst hnn
            obtain ⟨k, hk, rfl, m, hT, hK, hd, hbw⟩ := hrel
            have hD := Lib.hid hd
            clear hd
            by_cases hlt : (k : Int) < acks % 17
            · go_wp2_with fail
              refine (tab_keep _ _ _ _ _ _ _ _ hT (by omega) (by omega) (by omega) (by rw [hK.len]; omega) zMsg_size).mono ?_
              rintro e w4 ⟨rfl, hT4, k4⟩
              have hb4 := k4.below_of hbw hbw.size hS
              have hK4 := hK.put (.agg zMsg)
              have hst : Tabs w b r (16 + ((k + 1 : Nat) : Int)) (acks % 17) (16 - acks % 17 + ((k + 1 : Nat) : Int)).toNat w4 := ⟨_, by rw [show (16 : Int) + ((k + 1 : Nat) : Int) = 16 + (k : Int) + 1 by omega]; exact hT4, by
                rw [show acks % 17 + ((16 - acks % 17 + (k : Int)).toNat : Int) + 1 = 16 + (k : Int) + 1 by omega] at hK4
                rw [show (16 - acks % 17 + ((k + 1 : Nat) : Int)).toNat = (16 - acks % 17 + (k : Int)).toNat + 1 by omega]
                exact hK4, by omega, hb4⟩
              clear hT hT4 hK hK4 k4 hb4 hbw hD
              go_wp2
              go_roundw
              case rel => exact ⟨k + 1, by omega, by go_num, hst⟩
              case measure => simp [intOf]; omega
            · obtain hkn : (k : Int) = acks % 17 := by omega
              have hT : TabAt wr b r (16 + acks % 17) (acks % 17) m := by rw [← hkn] at hT ⊢; exact hT
              have hm : 16 ≤ m.length := by rw [hK.len]; omega
              have hge : ¬ (k : Int) < acks % 17 := hlt
              clear hkn hK hD
              go_wp2_with fail
              refine (tab_keep_full _ _ _ _ _ _ _ _ hT (by omega) (by omega) (by omega) hm).mono ?_
              rintro e w4 ⟨rfl, rfl⟩
              have hT := hT.alloc (.cells zMsg 67)
              have hbw := hbw.alloc hbw.size (.cells zMsg 67)
              go_wp2_with fail
              refine (tab_done _ _ _ _ _ _ hT).mono ?_
              rintro e w5 ⟨rfl, rfl⟩
              have hdd : (16 + acks % 17 == 16 + acks % 17) = true := by simp
              go_wp2_with fail
              refine (tab_acked _ _ _ _ _ _ hT).mono ?_
              rintro e w5 ⟨rfl, rfl⟩
              have haa : (acks % 17 == acks % 17) = true := by simp
              go_wp2_with fail
              go_ret
              exact ⟨rfl, hbw⟩
end Go.Proofs.Ytnjkoapkgoiljaa

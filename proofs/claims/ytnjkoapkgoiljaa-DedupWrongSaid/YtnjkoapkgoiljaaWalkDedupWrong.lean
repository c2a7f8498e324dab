/- DedupWrong: what is refused changes nothing: the walk. -/
import Derived.Test.YtnjkoapkgoiljaaDedupAlive
import Derived.Test.YtnjkoapkgoiljaaDedupLists
import Derived.Test.YtnjkoapkgoiljaaCame
namespace Go.Proofs.Ytnjkoapkgoiljaa
open Go.RowKit
attribute [local go_sem ↓] load67 store67 alloc67 build67 build67_5 build67_14 build67_5c build67_14c
attribute [local go_sem] rowOf_new rowOf_drew rowOf_setCell setRow_alloc isPtr0_ptr blkOf_ptr isAggV_agg cells_agg zMsg_size zMsg_one mset_size mset_one mset5 mset21 isU32_int

theorem u8w {n : Int} (h : (Lit.int .u8 n).wf = true) : 0 ≤ n ∧ n < 256 := by
  have := bounds_u8 h
  omega
theorem u32w {n : Int} (h : (Lit.int .u32 n).wf = true) : 0 ≤ n ∧ n < 4294967296 := by
  have := bounds_u32 h
  omega

/-- The answer to number n. -/
def fNum (n : Int) : Value := .agg (mset 21 (.int .u32 n))

/-- So many are done, so many acknowledged; the rest are kept with their numbers. -/
def TabE (w : World) (b r : Nat) (done acked : Int) (wr : World) : Prop := TabAt wr b r done acked (Ents fNum acked (done - acked).toNat) ∧ Below w.heap.size w wr

def DwRel1 (w : World) (b r : Nat) (d : Int) (i : Value) (wr : World) : Prop := ∃ k : Nat, (k : Int) ≤ d ∧ i = .int .u32 (k + 1) ∧ TabE w b r k 0 wr
def DwRel2 (w : World) (b r : Nat) (d a : Int) (i : Value) (wr : World) : Prop := ∃ k : Nat, (k : Int) ≤ d ∧ i = .int .u32 (k + 1) ∧ TabE w b r d a wr

set_option maxRecDepth 100000 in
set_option maxHeartbeats 2000000 in
theorem dedupWrong_walk (v0 v1 v2 v3 : Value) (w : World) (h0 : Came Try.prog w 5 v0) (h1 : Came Try.prog w 5 v1) (h2 : Came Try.prog w 30 v2) (h3 : Came Try.prog w 30 v3) :
    Calls Try.prog 10 #[v0, v1, v2, v3] w fun e w' => e = .returned (.bool true) ∧ Below w.heap.size w w' := by
  obtain ⟨done, rfl, hdo⟩ := Came.int Try.underlying5 h0
  obtain ⟨acked, rfl, hac⟩ := Came.int Try.underlying5 h1
  obtain ⟨req, rfl, hrq⟩ := Came.int Try.underlying30 h2
  obtain ⟨ack, rfl, hak⟩ := Came.int Try.underlying30 h3
  have hdo := u8w hdo
  have hac := u8w hac
  have hrq := u32w hrq
  have hak := u32w hak
  clear h0 h1 h2 h3
  go_enter Try.func10, Try.ntmps10
  go_wp2_with fail
  refine (dedup_alive _).mono ?_
  rintro e w1 ⟨rfl, k1⟩
  go_wp2_with fail
  refine (tab_new _).mono ?_
  rintro e w2 ⟨rfl, hT, k2⟩
  have kk := (k1.trans k2).below
  have g1 := k1.size
  have hb0 : w.heap.size ≤ w1.heap.size + 1 := by omega
  generalize w1.heap.size + 1 = b at *
  generalize w1.heap.size = r at *
  clear k1 k2
  have hS : ∀ i, (i = b ∨ i = r) → w.heap.size ≤ i := by omega
  have hd : 0 ≤ done % 16 ∧ done % 16 < 16 := by omega
  have hst : TabE w b r ((0 : Nat) : Int) 0 w2 := ⟨hT, kk⟩
  clear hT kk
  go_wp2_with fail
  generalize done % 16 = d at *
  go_loopw [11] (fun i wr => DwRel1 w b r d i wr) (fun i _ => 17 - (intOf i).toNat)
  case atStart => exact ⟨0, by omega, rfl, hst⟩
  case round =>
    clear hst
    obtain ⟨k, hk, rfl, hT, hbw⟩ := hrel
    by_cases hlt : (k : Int) < d
    · have hle : (k : Int) + 1 ≤ d := by omega
      have hlen : (Ents fNum 0 ((k : Int) - 0).toNat).length < 16 := by rw [(Ents.keys _ _ _).len]; omega
      go_wp2_with fail
      refine (tab_keep _ _ _ _ _ _ _ _ hT (by omega) (by omega) (by omega) hlen (mset_size _ _)).mono ?_
      rintro e w3 ⟨rfl, hT3, k3⟩
      have hb3 := k3.below_of hbw hbw.size hS
      have hst : TabE w b r ((k + 1 : Nat) : Int) 0 w3 := ⟨by
        have := Ents.put fNum 0 k
        rw [show (0 : Int) + (k : Int) + 1 = (k : Int) + 1 by omega] at this
        rw [show ((k : Int) - 0).toNat = k by omega] at hT3
        rw [show (((k + 1 : Nat) : Int) - 0).toNat = k + 1 by omega, ← this, show ((k + 1 : Nat) : Int) = (k : Int) + 1 by omega]
        exact hT3, hb3⟩
      clear hT hT3 k3 hb3 hbw hlen
      go_wp2
      go_roundw
      case rel => exact ⟨k + 1, by omega, by go_num, hst⟩
      case measure => simp [intOf]; omega
    · obtain rfl : d = (k : Int) := by omega
      have hle : ¬ ((k : Int) + 1 ≤ k) := by omega
      have ha : 0 ≤ acked % ((k : Int) + 1) ∧ acked % ((k : Int) + 1) < (k : Int) + 1 := ⟨Int.emod_nonneg _ (by omega), Int.emod_lt_of_pos _ (by omega)⟩
      have hm0 : ∀ p ∈ Ents fNum 0 ((k : Int) - 0).toNat, (0 : Int) < p.1 := fun p hp => ((Ents.keys _ _ _).mem p hp).1
      clear hlt hk
      go_wp2_with fail
      generalize acked % ((k : Int) + 1) = a at *
      refine (tab_ack _ _ _ _ _ _ _ hT (by omega) (by omega) (by omega) ha.1 hm0).mono ?_
      rintro e w3 ⟨rfl, a', ha', hT3, k3⟩
      obtain rfl : a' = a := by rw [ha', if_pos ha.1]
      have hb3 := k3.below_of hbw hbw.size hS
      rw [Ents.kept _ _ _ _ ha.1 (by omega), show ((0 : Int) + (((k : Int) - 0).toNat : Int) - a') = (k : Int) - a' by omega] at hT3
      clear hT hbw hm0 k3 ha'
      by_cases hreq : req = (k : Int) + 1
      · subst hreq
        have hlen : (Ents fNum a' ((k : Int) - a').toNat).length < 16 := by rw [(Ents.keys _ _ _).len]; omega
        go_wp2_with fail
        refine (tab_keep _ _ _ _ _ _ _ _ hT3 (by omega) (by omega) rfl hlen (mset_size _ _)).mono ?_
        rintro e w4 ⟨rfl, hT4, k4⟩
        have hb4 := k4.below_of hb3 hb3.size hS
        have e1 : ((k : Int) + 1 != (k : Int) + 1) = false := by simp
        have e2 : ((k : Int) + 1 == (k : Int) + 1) = true := by simp
        clear hT3 hb3 k4 hlen
        go_wp2_with fail
        refine (tab_done _ _ _ _ _ _ hT4).mono ?_
        rintro e w5 ⟨rfl, rfl⟩
        go_wp2_with fail
        go_ret
        exact ⟨rfl, hb4⟩
      · have e1 : (req != (k : Int) + 1) = true := by simpa [bne_iff_ne] using hreq
        have e2 : (req == (k : Int) + 1) = false := by simpa using hreq
        go_wp2_with fail
        refine (tab_keep_arg _ _ _ _ _ _ _ _ hT3 hrq.1 hrq.2 (by omega) (by omega)).mono ?_
        rintro e w4 ⟨rfl, rfl⟩
        have hst : TabE w b r k a' (w3.alloc (.cells (mset 21 (.int .u32 99)) 67)) := ⟨hT3.alloc _, hb3.alloc hb3.size _⟩
        clear hT3 hb3 hreq
        generalize w3.alloc (.cells (mset 21 (.int .u32 99)) 67) = w5 at *
        by_cases hgt : (k : Int) < ack
        · go_wp2_with fail
          refine (tab_ack_arg _ _ _ _ _ _ _ hst.1 hgt).mono ?_
          rintro e w6 ⟨rfl, rfl⟩
          go_wp2_with fail
          go_loopw [14] (fun i wr => DwRel2 w b r k a' i wr) (fun i _ => 17 - (intOf i).toNat)
          case atStart => exact ⟨0, by omega, rfl, hst⟩
          case round =>
            clear hst
            obtain ⟨j, hj, rfl, hT, hbw⟩ := hrel
            by_cases hlt : (j : Int) < k
            · have hle2 : (j : Int) + 1 ≤ k := by omega
              by_cases hp : (j : Int) + 1 ≤ a'
              · have hng : ¬ a' < (j : Int) + 1 := by omega
                go_wp2_with fail
                refine (tab_ask_past _ _ _ _ _ _ _ hT hp).mono ?_
                rintro e w7 ⟨rfl, k7⟩
                have hst : TabE w b r k a' (w7.alloc (.cells zMsg 67)) := ⟨(hT.kp k7 id id).alloc _, (k7.below_of hbw hbw.size (fun _ h => h.elim)).alloc (by have := hbw.size; have := k7.size; omega) _⟩
                clear hT hbw k7
                go_wp2
                go_roundw
                case rel => exact ⟨j + 1, by omega, by go_num, hst⟩
                case measure => simp [intOf]; omega
              · have hg : a' < (j : Int) + 1 := by omega
                have hl := Ents.look fNum a' ((j : Int) + 1) ((k : Int) - a').toNat hg (by omega)
                go_wp2_with fail
                refine (tab_ask_again _ _ _ _ _ _ _ hT (mset 21 (.int .u32 ((j : Int) + 1))) (mset_size _ _) (mset_one _ _ _) hg hle2 hl).mono ?_
                rintro e w7 ⟨rfl, k7⟩
                have hst : TabE w b r k a' (w7.alloc (.cells (mset 21 (.int .u32 ((j : Int) + 1))) 67)) := ⟨(hT.kp k7 id id).alloc _, (k7.below_of hbw hbw.size (fun _ h => h.elim)).alloc (by have := hbw.size; have := k7.size; omega) _⟩
                have hcell := ((Blk.new w7 (mset 21 (.int .u32 ((j : Int) + 1))) 67).cell 21).trans (mset21 _)
                have hjj : ((j : Int) + 1 != (j : Int) + 1) = false := by simp
                clear hT hbw k7 hl
                go_wp2
                go_roundw
                case rel => exact ⟨j + 1, by omega, by go_num, hst⟩
                case measure => simp [intOf]; omega
            · have hle2 : ¬ (j : Int) + 1 ≤ k := by omega
              have hkk : ((k : Int) == k) = true := by simp
              have haa : (a' == a') = true := by simp
              go_wp2_with fail
              refine (tab_done _ _ _ _ _ _ hT).mono ?_
              rintro e w7 ⟨rfl, rfl⟩
              go_wp2_with fail
              refine (tab_acked _ _ _ _ _ _ hT).mono ?_
              rintro e w7 ⟨rfl, rfl⟩
              go_wp2_with fail
              go_ret
              exact ⟨rfl, hbw⟩
        · go_wp2_with fail
          go_loopw [14] (fun i wr => DwRel2 w b r k a' i wr) (fun i _ => 17 - (intOf i).toNat)
          case atStart => exact ⟨0, by omega, rfl, hst⟩
          case round =>
            clear hst
            obtain ⟨j, hj, rfl, hT, hbw⟩ := hrel
            by_cases hlt : (j : Int) < k
            · have hle2 : (j : Int) + 1 ≤ k := by omega
              by_cases hp : (j : Int) + 1 ≤ a'
              · have hng : ¬ a' < (j : Int) + 1 := by omega
                go_wp2_with fail
                refine (tab_ask_past _ _ _ _ _ _ _ hT hp).mono ?_
                rintro e w7 ⟨rfl, k7⟩
                have hst : TabE w b r k a' (w7.alloc (.cells zMsg 67)) := ⟨(hT.kp k7 id id).alloc _, (k7.below_of hbw hbw.size (fun _ h => h.elim)).alloc (by have := hbw.size; have := k7.size; omega) _⟩
                clear hT hbw k7
                go_wp2
                go_roundw
                case rel => exact ⟨j + 1, by omega, by go_num, hst⟩
                case measure => simp [intOf]; omega
              · have hg : a' < (j : Int) + 1 := by omega
                have hl := Ents.look fNum a' ((j : Int) + 1) ((k : Int) - a').toNat hg (by omega)
                go_wp2_with fail
                refine (tab_ask_again _ _ _ _ _ _ _ hT (mset 21 (.int .u32 ((j : Int) + 1))) (mset_size _ _) (mset_one _ _ _) hg hle2 hl).mono ?_
                rintro e w7 ⟨rfl, k7⟩
                have hst : TabE w b r k a' (w7.alloc (.cells (mset 21 (.int .u32 ((j : Int) + 1))) 67)) := ⟨(hT.kp k7 id id).alloc _, (k7.below_of hbw hbw.size (fun _ h => h.elim)).alloc (by have := hbw.size; have := k7.size; omega) _⟩
                have hcell := ((Blk.new w7 (mset 21 (.int .u32 ((j : Int) + 1))) 67).cell 21).trans (mset21 _)
                have hjj : ((j : Int) + 1 != (j : Int) + 1) = false := by simp
                clear hT hbw k7 hl
                go_wp2
                go_roundw
                case rel => exact ⟨j + 1, by omega, by go_num, hst⟩
                case measure => simp [intOf]; omega
            · have hle2 : ¬ (j : Int) + 1 ≤ k := by omega
              have hkk : ((k : Int) == k) = true := by simp
              have haa : (a' == a') = true := by simp
              go_wp2_with fail
              refine (tab_done _ _ _ _ _ _ hT).mono ?_
              rintro e w7 ⟨rfl, rfl⟩
              go_wp2_with fail
              refine (tab_acked _ _ _ _ _ _ hT).mono ?_
              rintro e w7 ⟨rfl, rfl⟩
              go_wp2_with fail
              go_ret
              exact ⟨rfl, hbw⟩
end Go.Proofs.Ytnjkoapkgoiljaa

/- The document's example of layer 16. -/
import Derived.Test.YtnjkoapkgoiljaaDedup
namespace Go.Proofs.Ytnjkoapkgoiljaa
open Go.RowKit
attribute [local go_sem ↓] load67 store67 alloc67 build67 build67_5 build67_14 build67_5c build67_14c
attribute [local go_sem] rowOf_new rowOf_drew rowOf_setCell setRow_alloc isPtr0_ptr blkOf_ptr isAggV_agg cells_agg zMsg_size zMsg_one mset_size mset_one mset5 mset21 isU32_int

theorem kp_new {S : Nat → Prop} {a w w' : World} (h : Kp (fun _ => False) a w) (k : Kp S w w') (hS : ∀ i, S i → a.heap.size ≤ i) : Kp (fun _ => False) a w' :=
  h.then_ k (fun i hi hlt => absurd (hS i hi) (by omega))

set_option maxRecDepth 100000 in
set_option maxHeartbeats 2000000 in
theorem dedup_alive (w : World) : Calls Try.prog 28 #[] w fun e w' => e = .returned (.bool true) ∧ Kp (fun _ => False) w w' := by
  go_enter Try.func28, Try.ntmps28
  go_wp2_with fail
  refine (tab_new _).mono ?_
  rintro e w1 ⟨rfl, hT, k1⟩
  have hr0 : w.heap.size ≤ w.heap.size + 1 := by omega
  have hS : ∀ i, (i = w.heap.size + 1 ∨ i = w.heap.size) → w.heap.size ≤ i := by omega
  obtain ⟨b, hb⟩ : ∃ b, Hid (w.heap.size + 1 = b) := ⟨_, rfl⟩
  obtain ⟨r, hr⟩ : ∃ r, Hid (w.heap.size = r) := ⟨_, rfl⟩
  rw [hb.out, hr.out] at hT
  rw [hb.out]
  have hS : ∀ i, (i = b ∨ i = r) → w.heap.size ≤ i := by rw [← hb.out, ← hr.out]; exact hS
  go_wp2_with fail
  refine (tab_ask_fresh _ _ _ _ _ _ _ hT (by decide) rfl (by decide) (by decide)).mono ?_
  rintro e w2 ⟨rfl, k2⟩
  have hT := hT.kp k2 id id
  have kk := k1.trans k2
  clear k1 k2
  go_wp2_with fail
  have hT := hT.alloc (.cells zMsg 67)
  have kk := kk.alloc (.cells zMsg 67)
  refine (tab_keep _ _ _ _ _ 1 (mset 5 (.int .u32 5)) _ hT (by decide) (by decide) (by decide) (by decide) (mset_size _ _)).mono ?_
  rintro e w3 ⟨rfl, hT, k3⟩
  have kk := kp_new kk k3 hS
  clear k3
  go_wp2_with fail
  refine (tab_ask_again _ _ _ _ _ 1 _ hT (mset 5 (.int .u32 5)) (mset_size _ _) (mset_one _ _ _) (by decide) (by decide) rfl).mono ?_
  rintro e w4 ⟨rfl, k4⟩
  have hT := hT.kp k4 id id
  have kk := kk.trans k4
  clear k4
  have hA := Blk.new w4 (mset 5 (.int .u32 5)) 67
  have hT := hT.alloc (.cells (mset 5 (.int .u32 5)) 67)
  have kk := kk.alloc (.cells (mset 5 (.int .u32 5)) 67)
  go_wp2_with fail
  obtain ⟨g, hg⟩ : ∃ g, Hid (w4.heap.size = g) := ⟨_, rfl⟩
  rw [hg.out] at hA ⊢
  refine (tab_ask_gap _ _ _ _ _ 3 _ hT (by decide) (by decide) (by decide) (by decide)).mono ?_
  rintro e w5 ⟨rfl, k5⟩
  have hT := (hT.kp k5 id id).alloc (.cells zMsg 67)
  have hA := (hA.kp k5 id).alloc (.cells zMsg 67)
  have kk := (kk.trans k5).alloc (.cells zMsg 67)
  clear k5
  go_wp2_with fail
  have hgb : g ≠ b := hA.ne hT.1 (by decide)
  have hgr : r ≠ g := hT.2.ne_blk hA
  refine (tab_ack _ _ _ _ _ 1 _ hT (by decide) (by decide) (by decide) (by decide) (by decide)).mono ?_
  rintro e w6 ⟨rfl, a, ha, hT, k6⟩
  obtain rfl : a = 1 := by rw [ha]; decide
  have hA := hA.kp k6 (by show ¬ (g = b ∨ g = r); omega)
  have kk := kp_new kk k6 hS
  clear k6 ha
  go_wp2_with fail
  refine (tab_ask_past _ _ _ _ _ 1 _ hT (by decide)).mono ?_
  rintro e w7 ⟨rfl, k7⟩
  have hT := (hT.kp k7 id id).alloc (.cells zMsg 67)
  have hA := (hA.kp k7 id).alloc (.cells zMsg 67)
  have kk := (kk.trans k7).alloc (.cells zMsg 67)
  clear k7
  have hc : (w7.alloc (.cells zMsg 67)).cell? ⟨g, 5, none⟩ = some (.int .u32 5) := (hA.cell 5).trans (mset5 _)
  go_wp2_with fail
  refine (tab_ack_arg _ _ _ _ _ 2 _ hT (by decide)).mono ?_
  rintro e w8 ⟨rfl, rfl⟩
  go_wp2_with fail
  go_ret
  exact ⟨rfl, kk⟩
end Go.Proofs.Ytnjkoapkgoiljaa

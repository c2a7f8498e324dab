/- The hub: New, Open, Close, Conn, Conns, Sessions. -/
import Derived.Test.YtigdbooadelciaaGreatHub2
import Derived.Test.YtigdbooadelciaaGreatMsgB
import Derived.Test.YtigdbooadelciaaGreatBs
namespace Go.Proofs.YtigdbooadelciaaGreat
set_option linter.unusedVariables false
set_option linter.unusedSimpArgs false
open Go.RowKit

theorem keyI : KeyOk Tryz.prog 3 kvI := keyOk_int Tryz.underlying3
theorem keyU : KeyOk Tryz.prog 40 kvU := keyOk_int Tryz.underlying40

section
variable {w : World} {B bh bc bl : Nat} {caps size away last : Int} {cs : ConL} {ss : SesL}

theorem look_con (h : HubAt w B bh bc bl caps size away last cs ss) (n : Int) :
    (Instr.lookup 109 (.map (some bc)) (.int .i64 n) false).run Tryz.prog w = .ok (((lookN cs n).map fun q => Value.pointer (some ⟨q.1, 0, none⟩)).getD (.pointer none)) w := by
  have := h.cm.look keyI (t := 109) (e := 113) Tryz.underlying109 (z := .pointer none) (Tryz.zeroValue113 w) n
  rw [look_cptr] at this
  exact this
theorem look_ses (h : HubAt w B bh bc bl caps size away last cs ss) (n : Int) :
    (Instr.lookup 110 (.map (some bl)) (.int .u64 n) false).run Tryz.prog w = .ok (((lookS ss n).map fun q => Value.pointer (some ⟨q.1, 0, none⟩)).getD (.pointer none)) w := by
  have := h.lm.look keyU (t := 110) (e := 114) Tryz.underlying110 (z := .pointer none) (Tryz.zeroValue114 w) n
  rw [look_sptr] at this
  exact this
theorem len_con (h : HubAt w B bh bc bl caps size away last cs ss) (ty : TypeId) : (Builtin.len_ #[109] ty #[.map (some bc)]).run Tryz.prog w = .ok (.int .i64 cs.length) w := by
  have := h.cm.len (P := Tryz.prog) (ty := ty) Tryz.underlying109
  simpa [cptr] using this
theorem len_ses (h : HubAt w B bh bc bl caps size away last cs ss) (ty : TypeId) : (Builtin.len_ #[110] ty #[.map (some bl)]).run Tryz.prog w = .ok (.int .i64 ss.length) w := by
  have := h.lm.len (P := Tryz.prog) (ty := ty) Tryz.underlying110
  simpa [sptr] using this
theorem HubAt.cells (h : HubAt w B bh bc bl caps size away last cs ss) : w.cell? ⟨bh, 0, none⟩ = some (.int .u32 caps) ∧ w.cell? ⟨bh, 1, none⟩ = some (.int .i64 size) ∧ w.cell? ⟨bh, 2, none⟩ = some (.int .u32 away) ∧ w.cell? ⟨bh, 3, none⟩ = some (.map (some bc)) ∧ w.cell? ⟨bh, 4, none⟩ = some (.map (some bl)) ∧ w.cell? ⟨bh, 5, none⟩ = some (.int .u64 last) :=
  ⟨(h.blk.cell 0).trans rfl, (h.blk.cell 1).trans rfl, (h.blk.cell 2).trans rfl, (h.blk.cell 3).trans rfl, (h.blk.cell 4).trans rfl, (h.blk.cell 5).trans rfl⟩

set_option maxHeartbeats 1000000 in
theorem hub_new (caps size away : Int) (w : World) (B : Nat) (hB : B ≤ w.heap.size) :
    Calls Tryz.prog 19 #[.int .u32 caps, .int .i64 size, .int .u32 away] w fun e w' => ∃ bh bc bl, e = .returned (.pointer (some ⟨bh, 0, none⟩)) ∧ HubAt w' B bh bc bl caps size away 0 [] [] ∧ Kp (fun _ => False) w w' := by
  have hmk := @run_makeMap Tryz.prog
  have hfin : Hid (∃ bh bc bl, Ending.returned (.pointer (some ⟨w.heap.size + 1 + 1, 0, none⟩)) = Ending.returned (.pointer (some ⟨bh, 0, none⟩)) ∧ HubAt (((w.alloc (.map #[] 0)).alloc (.map #[] 0)).alloc (.cells #[.int .u32 caps, .int .i64 size, .int .u32 away, .map (some w.heap.size), .map (some (w.heap.size + 1)), .int .u64 0] 112)) B bh bc bl caps size away 0 [] [] ∧ Kp (fun _ => False) w (((w.alloc (.map #[] 0)).alloc (.map #[] 0)).alloc (.cells #[.int .u32 caps, .int .i64 size, .int .u32 away, .map (some w.heap.size), .map (some (w.heap.size + 1)), .int .u64 0] 112))) := by
    have hb := Blk.new ((w.alloc (.map #[] 0)).alloc (.map #[] 0)) #[.int .u32 caps, .int .i64 size, .int .u32 away, .map (some w.heap.size), .map (some (w.heap.size + 1)), .int .u64 0] 112
    rw [show ((w.alloc (.map #[] 0)).alloc (.map #[] 0)).heap.size = w.heap.size + 1 + 1 by simp] at hb
    have hl := (MapAt.new (w.alloc (.map #[] 0)) kvU).alloc (.cells #[.int .u32 caps, .int .i64 size, .int .u32 away, .map (some w.heap.size), .map (some (w.heap.size + 1)), .int .u64 0] 112)
    rw [show (w.alloc (.map #[] 0)).heap.size = w.heap.size + 1 by simp] at hl
    exact ⟨_, _, _, rfl, ⟨hb, ((MapAt.new w kvI).alloc _).alloc _, hl, by simp, by simp, by omega, hB, by omega, by simp, by simp, by simp, by simp, by simp⟩, (((Kp.refl _ _).alloc _).alloc _).alloc _⟩
  go_enter Tryz.func19, Tryz.ntmps19
  go_wp2_with fail
  go_ret
  exact hfin.out
set_option maxHeartbeats 1000000 in
theorem open_there (n : Int) (h : HubAt w B bh bc bl caps size away last cs ss) {q : Nat × Option (Int × Nat)} (hl : lookN cs n = some q) : Calls Tryz.prog 21 #[.pointer (some ⟨bh, 0, none⟩), .int .i64 n] w fun e w' => e = .returned (.int .i64 3) ∧ w = w' := by
  obtain ⟨h0, h1, h2, h3, h4, h5⟩ := h.cells
  have hk := look_con h n
  rw [hl] at hk
  simp only [Option.map_some, Option.getD_some] at hk
  clear h hl
  go_enter Tryz.func21, Tryz.ntmps21
  go_wp2_with fail
  go_ret
  exact ⟨rfl, rfl⟩
set_option maxHeartbeats 1000000 in
theorem open_full (n : Int) (h : HubAt w B bh bc bl caps size away last cs ss) (hl : lookN cs n = none) (h8 : 8 ≤ cs.length) : Calls Tryz.prog 21 #[.pointer (some ⟨bh, 0, none⟩), .int .i64 n] w fun e w' => e = .returned (.int .i64 4) ∧ w = w' := by
  obtain ⟨h0, h1, h2, h3, h4, h5⟩ := h.cells
  have hk := look_con h n
  rw [hl] at hk
  simp only [Option.map_none, Option.getD_none] at hk
  have hn := len_con h
  have e8 : (8 : Int) ≤ (cs.length : Int) := by omega
  clear h hl h8
  go_enter Tryz.func21, Tryz.ntmps21
  go_wp2_with fail
  go_ret
  exact ⟨rfl, rfl⟩
theorem lookN_none {cs : ConL} {n : Int} (h : lookN cs n = none) : ∀ p ∈ cs, p.1 ≠ n := by
  intro p hp e
  unfold lookN at h
  rw [Option.map_eq_none_iff, List.find?_eq_none] at h
  exact h p hp (by simpa using e)
theorem lookS_none {ss : SesL} {n : Int} (h : lookS ss n = none) : ∀ p ∈ ss, p.1 ≠ n := by
  intro p hp e
  unfold lookS at h
  rw [Option.map_eq_none_iff, List.find?_eq_none] at h
  exact h p hp (by simpa using e)
def OpenPost (w : World) (B bh bc bl : Nat) (caps size away last : Int) (cs : ConL) (ss : SesL) (n : Int) (e : Ending) (w' : World) : Prop :=
  ∃ b, e = .returned (.int .i64 0) ∧ HubAt w' B bh bc bl caps size away last (cs ++ [(n, b, none)]) ss ∧ w.heap.size ≤ b ∧ Kp (fun i => i = bc) w w'
set_option maxHeartbeats 1000000 in
theorem open_ok (n : Int) (h : HubAt w B bh bc bl caps size away last cs ss) (hB : B ≤ w.heap.size) (hl : lookN cs n = none) (h8 : cs.length < 8) : Calls Tryz.prog 21 #[.pointer (some ⟨bh, 0, none⟩), .int .i64 n] w (OpenPost w B bh bc bl caps size away last cs ss n) := by
  obtain ⟨h0, h1, h2, h3, h4, h5⟩ := h.cells
  have hk := look_con h n
  rw [hl] at hk
  simp only [Option.map_none, Option.getD_none] at hk
  have hn := len_con h
  have e8 : ¬ (8 : Int) ≤ (cs.length : Int) := by omega
  have ka := (Kp.refl (fun _ => False) w).alloc (.cells #[.int .i64 n, .pointer none] 116)
  have hA := h.kp0 ka
  obtain ⟨w9, hrun0, hM9, hk9, hsz9⟩ := hA.cm.put keyI (P := Tryz.prog) Tryz.underlying109 n (.pointer (some ⟨w.heap.size, 0, none⟩))
  have hrun : (Instr.mapUpdate 109 (.map (some bc)) (.int .i64 n) (.pointer (some ⟨w.heap.size, 0, none⟩))).run Tryz.prog (w.alloc (.cells #[.int .i64 n, .pointer none] 116)) = .ok () w9 := hrun0
  have hbc : w.heap.size ≠ bc := by have := h.lts.2.1; omega
  have hcon : ConAt w9 (n, w.heap.size, none) := Blk.kp (Blk.new w #[.int .i64 n, .pointer none] 116) hk9 hbc
  have hfin : OpenPost w B bh bc bl caps size away last cs ss n (.returned (.int .i64 0)) w9 := by
    refine ⟨w.heap.size, rfl, ?_, Nat.le_refl _, (ka.mono (fun _ _ h => h.elim)).trans hk9⟩
    exact h.putCon hB (Nat.le_refl _) (lookN_none hl) hM9 ((ka.mono (fun _ _ h => h.elim)).trans hk9) hcon
  have hfinH := Lib.hid hfin
  clear h hl h8 hA hM9 hk9 hcon hfin hrun0 hsz9
  go_enter Tryz.func21, Tryz.ntmps21
  go_wp2_with fail
  go_ret
  exact hfinH.out
end
end Go.Proofs.YtigdbooadelciaaGreat

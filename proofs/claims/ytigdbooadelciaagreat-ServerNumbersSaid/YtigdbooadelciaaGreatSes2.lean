/- The hub: Close. -/
import Derived.Test.YtigdbooadelciaaGreatSes1
import Derived.Deep.RegionLaw
namespace Go.Proofs.YtigdbooadelciaaGreat
set_option linter.unusedVariables false
set_option linter.unusedSimpArgs false
open Go.RowKit

/-- The types whose rows the hub's functions turn. -/
def TH (t : TypeId) : Prop := t = 112 ∨ t = 116 ∨ t = 120 ∨ t = 297 ∨ t = 300

def closeS (cs : ConL) (ss : SesL) (n now : Int) : SesL :=
  match lookN cs n with
  | some (_, some (t, _)) => (match lookS ss t with | some (_, S) => setS ss t { S with conn := none, since := now } | none => ss)
  | _ => ss

theorem delN_none {cs : ConL} {n : Int} (h : lookN cs n = none) : delN cs n = cs := by
  unfold delN
  rw [List.filter_eq_self]
  exact fun p hp => by simpa using lookN_none h p hp
theorem lookS_of_mem {ss : SesL} (hn : (ss.map (·.1)).Nodup) {t : Int} {b : Nat} {S : SS} (h : (t, b, S) ∈ ss) : lookS ss t = some (b, S) := by
  cases hl : lookS ss t with
  | none => exact absurd rfl (lookS_none hl _ h)
  | some q =>
    have := nodup_at hn (lookS_mem hl) h rfl
    simp only [Prod.mk.injEq] at this
    rw [← this.2.1, ← this.2.2]
theorem lookN_of_mem {cs : ConL} (hn : (cs.map (·.1)).Nodup) {n : Int} {b : Nat} {o : Option (Int × Nat)} (h : (n, b, o) ∈ cs) : lookN cs n = some (b, o) := by
  cases hl : lookN cs n with
  | none => exact absurd rfl (lookN_none hl _ h)
  | some q =>
    have := nodup_at hn (lookN_mem hl) h rfl
    simp only [Prod.mk.injEq] at this
    rw [← this.2.1, ← this.2.2]

section
variable {w : World} {B bh bc bl : Nat} {caps size away last : Int} {cs : ConL} {ss : SesL}
def ClosePost (w : World) (B bh bc bl : Nat) (caps size away last : Int) (cs : ConL) (ss : SesL) (n now : Int) (e : Ending) (w' : World) : Prop :=
  e = .returned (.bool (lookN cs n).isSome) ∧ HubAt w' B bh bc bl caps size away last (delN cs n) (closeS cs ss n now) ∧ Kt B TH True w w' ∧ ∀ p ∈ cs, ConAt w' p

set_option maxHeartbeats 2000000 in
theorem hub_close (n now : Int) (h : HubAt w B bh bc bl caps size away last cs ss) (hk : Link cs ss) : Calls Tryz.prog 20 #[.pointer (some ⟨bh, 0, none⟩), .int .i64 n, .int .u32 now] w (ClosePost w B bh bc bl caps size away last cs ss n now) := by
  obtain ⟨h0, h1, h2, h3, h4, h5⟩ := h.cells
  have hlk := look_con h n
  cases hl : lookN cs n with
  | none =>
    rw [hl] at hlk
    simp only [Option.map_none, Option.getD_none] at hlk
    have hfin : Hid (ClosePost w B bh bc bl caps size away last cs ss n now (.returned (.bool false)) w) := by
      refine ⟨by rw [hl]; rfl, ?_, Kt.refl _, fun p hp => (h.con p hp).2⟩
      rw [delN_none hl]
      unfold closeS
      rw [hl]
      exact h
    clear h hl
    go_enter Tryz.func20, Tryz.ntmps20
    go_wp2_with fail
    go_ret
    exact hfin.out
  | some q =>
    obtain ⟨b, o⟩ := q
    rw [hl] at hlk
    simp only [Option.map_some, Option.getD_some] at hlk
    have hm := lookN_mem hl
    have hcon := (h.con _ hm).2
    obtain ⟨w9, hrun0, hM9, hk9, hsz9⟩ := h.cm.del keyI (P := Tryz.prog) (ty := 0) Tryz.underlying109 n
    have hrun : (Builtin.delete_ #[109, 3] 0 #[.map (some bc), .int .i64 n]).run Tryz.prog w = .ok (.tuple #[]) w9 := hrun0
    have hD := h.delCon n hM9 hk9
    have hbb : b ≠ bc := fun e => h.cm.ne_blk hcon e.symm
    have hcon9 := Blk.kp hcon hk9 hbb
    have c1 : w9.cell? ⟨b, 1, none⟩ = some (ptrO o) := (Blk.cell hcon9 1).trans rfl
    have hC9 : ∀ p ∈ cs, ConAt w9 p := fun p hp => Blk.kp (h.con p hp).2 hk9 (fun e => h.cm.ne_blk (h.con p hp).2 e.symm)
    have kT : Kt B TH True w w9 := (Kt.refl w).map h.cm trivial h.hbc hk9
    cases o with
    | none =>
      simp only [ptrO, Option.map_none] at c1
      have hfin : Hid (ClosePost w B bh bc bl caps size away last cs ss n now (.returned (.bool true)) w9) := by
        refine ⟨by rw [hl]; rfl, ?_, kT, hC9⟩
        unfold closeS
        rw [hl]
        exact hD
      clear h hl hM9 hk9 hsz9 hrun0 hcon9 hcon hD kT hC9
      go_enter Tryz.func20, Tryz.ntmps20
      go_wp2_with fail
      go_ret
      exact hfin.out
    | some ts =>
      obtain ⟨t, bs⟩ := ts
      obtain ⟨S, hS, hSc⟩ := hk.c _ _ _ _ hm
      have hlS := lookS_of_mem h.skeys hS
      obtain ⟨-, s1, s2, s3⟩ := hD.ses _ hS
      simp only at s1 s2 s3
      simp only [ptrO, Option.map_some] at c1
      have d4 : w9.cell? ⟨bs, 4, none⟩ = some (ptrO S.conn) := (s1.cell 4).trans rfl
      have d5 : w9.cell? ⟨bs, 5, none⟩ = some (.int .u32 S.since) := (s1.cell 5).trans rfl
      have f4 := s1.frozen 4
      have f5 := s1.frozen 5
      have hne : b ≠ bs := Blk.ne hcon9 s1 (by decide)
      rw [hSc] at d4
      simp only [ptrO, Option.map_some] at d4
      have r1 := (s1.set 4 (.pointer none)).set 5 (.int .u32 now)
      have kk : Kp (fun i => i = bs ∨ i = S.bd ∨ i = S.br ∨ i = S.bw) w9 ((w9.setCell ⟨bs, 4, none⟩ (.pointer none)).setCell ⟨bs, 5, none⟩ (.int .u32 now)) := ((Kp.refl _ _).setCell (fun _ => .inl rfl) _).setCell (fun _ => .inl rfl) _
      have hfin : Hid (ClosePost w B bh bc bl caps size away last cs ss n now (.returned (.bool true)) ((w9.setCell ⟨bs, 4, none⟩ (.pointer none)).setCell ⟨bs, 5, none⟩ (.int .u32 now)).drew) := by
        have hsb := ((h.ses _ hS).1).1
        have hA := hD.setSes hlS kk (S' := { S with conn := none, since := now }) ⟨r1, (s2.kp ((Kp.refl (fun i => i = bs) _).set1 4 _) (s2.1.ne s1 (by decide)) (s2.2.ne_blk s1)).kp ((Kp.refl (fun i => i = bs) _).set1 5 _) (s2.1.ne s1 (by decide)) (s2.2.ne_blk s1), (Blk.kp s3 ((Kp.refl (fun i => i = bs) _).set1 4 _) (Blk.ne s3 s1 (by decide))).kp ((Kp.refl (fun i => i = bs) _).set1 5 _) (Blk.ne s3 s1 (by decide))⟩ rfl rfl rfl
        refine ⟨by rw [hl]; rfl, ?_, ((kT.setCell s1 (.inr (.inr (.inl rfl))) hsb 4 _).setCell (s1.set 4 _) (.inr (.inr (.inl rfl))) hsb 5 _).drew, fun p hp => Blk.drew (Blk.set_other (Blk.set_other (hC9 p hp) (a := ⟨bs, 4, none⟩) (Blk.ne (hC9 p hp) s1 (by decide)) _) (a := ⟨bs, 5, none⟩) (Blk.ne (hC9 p hp) s1 (by decide)) _)⟩
        unfold closeS
        rw [hl]
        simp only [hlS]
        exact hA.kp0 (Kp.drew (Kp.refl _ _))
      clear h hl hM9 hk9 hsz9 hrun0 hcon9 hcon hD kT hC9 hk s1 s2 s3 r1 kk hS hlS
      go_enter Tryz.func20, Tryz.ntmps20
      go_wp2_with fail
      go_region
      all_goals
        go_wp2_with fail
        go_ret
        exact hfin.out
end
end Go.Proofs.YtigdbooadelciaaGreat

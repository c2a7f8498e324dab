/- Cursor: the table's state; New, Len, mine, right. -/
import Derived.Test.YtcamhpjgpjihhaaCur2
namespace Go.Proofs.Ytcamhpjgpjihhaa
set_option linter.unusedVariables false
set_option linter.unusedSimpArgs false
open Go.RowKit

structure Cur where
  owner : Int
  ask : AskC
  page : Int
  lh : Bool
  ld : Int
  li : Int
  ah : Bool
  ad : Int
  ai : Int
  used : Int

/-- A cursor's cells: its slices' values are v, a, y, n. -/
def Cur.cells (c : Cur) (v a y n : Value) : Array Value :=
  #[.int .u64 c.owner, .int .i64 c.ask.pin, v, a, y, n, .bool c.ask.has, .int .i64 c.ask.ld, .int .u32 c.ask.li, .int .u32 c.page, .bool c.lh, .int .i64 c.ld, .int .u32 c.li, .bool c.ah, .int .i64 c.ad, .int .u32 c.ai, .int .u32 c.used]

def CurAt (w : World) (b : Nat) (c : Cur) : Prop :=
  ∃ v a y n, Blk w b (c.cells v a y n) 103 ∧ OwnI w 0 v c.ask.vec ∧ OwnT w 0 a c.ask.al ∧ OwnT w 0 y c.ask.an ∧ OwnT w 0 n c.ask.no

/-- The types whose rows the table's functions turn. -/
def TC (t : TypeId) : Prop := t = 96 ∨ t = 103

abbrev CurL := List (Int × Nat × Cur)
def ptrs (l : CurL) : List (Int × Value) := l.map fun p => (p.1, .pointer (some ⟨p.2.1, 0, none⟩))
def lookC (l : CurL) (n : Int) : Option (Nat × Cur) := (l.find? fun p => decide (p.1 = n)).map (·.2)
def setC (l : CurL) (n : Int) (c : Cur) : CurL := l.map fun p => if p.1 = n then (p.1, p.2.1, c) else p
def delC (l : CurL) (n : Int) : CurL := l.filter fun p => decide (p.1 ≠ n)

structure TabAt (w : World) (B bt bm : Nat) (idle last : Int) (l : CurL) : Prop where
  blk : Blk w bt #[.int .u32 idle, .map (some bm), .int .u32 last] 96
  map : MapAt w bm (fun n : Int => .int .u32 n) (ptrs l)
  bt : B ≤ bt
  bm : B ≤ bm
  cur : ∀ p ∈ l, B ≤ p.2.1 ∧ CurAt w p.2.1 p.2.2
  nodup : (l.map fun p => p.2.1).Nodup

theorem keyU32 : KeyOk Try.prog 41 (fun n : Int => Value.int .u32 n) := keyOk_int Try.underlying41

theorem look_ptrs (l : CurL) (n : Int) : lookM (ptrs l) n = (lookC l n).map fun q => .pointer (some ⟨q.1, 0, none⟩) := by
  unfold lookM lookC ptrs
  induction l with
  | nil => rfl
  | cons p l ih =>
    by_cases h : p.1 = n
    · simp [h]
    · simp only [List.map_cons, List.find?_cons, h, decide_false]
      exact ih

theorem CurAt.kp {w w' : World} {b : Nat} {c : Cur} (h : CurAt w b c) (k : Kp (fun _ => False) w w') : CurAt w' b c := by
  obtain ⟨v, a, y, n, h0, h1, h2, h3, h4⟩ := h
  exact ⟨v, a, y, n, h0.kp k id, OwnR.kp h1 k, OwnR.kp h2 k, OwnR.kp h3 k, OwnR.kp h4 k⟩
theorem CurAt.kt {B : Nat} {T : TypeId → Prop} {M : Prop} {w w' : World} {b : Nat} {c : Cur} (h : CurAt w b c) (k : Kt B T M w w') (h0 : ¬ T 103) (h1 : ¬ T 21) (h2 : ¬ T 9) : CurAt w' b c := by
  obtain ⟨v, a, y, n, p0, p1, p2, p3, p4⟩ := h
  exact ⟨v, a, y, n, p0.kt k h0, OwnR.kt p1 k h1, OwnR.kt p2 k h2, OwnR.kt p3 k h2, OwnR.kt p4 k h2⟩
/-- A step that turns one block, of a type other than the slices' elements, and not this one. -/
theorem CurAt.other {w w' : World} {b g : Nat} {c : Cur} {cs : Array Value} {t : TypeId} (h : CurAt w b c) (hg : Blk w g cs t) (h1 : t ≠ 21) (h2 : t ≠ 9) (hne : b ≠ g) (k : Kp (fun i => i = g) w w') : CurAt w' b c := by
  obtain ⟨v, a, y, n, p0, p1, p2, p3, p4⟩ := h
  exact ⟨v, a, y, n, p0.kp k hne, own_kp p1 k (own_ne_blk p1 hg h1), own_kp p2 k (own_ne_blk p2 hg h2), own_kp p3 k (own_ne_blk p3 hg h2), own_kp p4 k (own_ne_blk p4 hg h2)⟩
theorem own_ne_map {κ : Type} {w : World} {base n size b : Nat} {e : TypeId} {v : Value} {xs : List Value} {kv : κ → Value} {m : List (κ × Value)} (h : w.ownsRow base e size v n xs) (hb : MapAt w b kv m) : ∀ g, v.ownBlock = some g → g ≠ b := by
  intro g hg hgb
  subst hgb
  rcases h.2 with ⟨rfl, _⟩ | ⟨g', cap, cur, rfl, _, hh, _⟩
  · simp [Value.ownBlock] at hg
  · simp [Value.ownBlock] at hg
    subst hg
    exact hb.ne_blk (show Blk w g' cur e from hh) rfl
theorem CurAt.map {κ : Type} {w w' : World} {b g : Nat} {c : Cur} {kv : κ → Value} {m : List (κ × Value)} (h : CurAt w b c) (hg : MapAt w g kv m) (k : Kp (fun i => i = g) w w') : CurAt w' b c := by
  obtain ⟨v, a, y, n, p0, p1, p2, p3, p4⟩ := h
  exact ⟨v, a, y, n, p0.kp k (fun e => hg.ne_blk p0 e.symm), own_kp p1 k (own_ne_map p1 hg), own_kp p2 k (own_ne_map p2 hg), own_kp p3 k (own_ne_map p3 hg), own_kp p4 k (own_ne_map p4 hg)⟩

theorem TabAt.kp {w w' : World} {B bt bm : Nat} {idle last : Int} {l : CurL} (h : TabAt w B bt bm idle last l) (k : Kp (fun _ => False) w w') : TabAt w' B bt bm idle last l :=
  ⟨h.blk.kp k id, h.map.kp k id, h.bt, h.bm, fun p hp => ⟨(h.cur p hp).1, (h.cur p hp).2.kp k⟩, h.nodup⟩
theorem TabAt.kt {B' : Nat} {T : TypeId → Prop} {M : Prop} {w w' : World} {B bt bm : Nat} {idle last : Int} {l : CurL} (h : TabAt w B bt bm idle last l) (k : Kt B' T M w w') (h0 : ¬ T 96) (h1 : ¬ T 103) (h2 : ¬ T 21) (h3 : ¬ T 9) (hM : ¬ M) : TabAt w' B bt bm idle last l :=
  ⟨h.blk.kt k h0, h.map.kt k hM, h.bt, h.bm, fun p hp => ⟨(h.cur p hp).1, (h.cur p hp).2.kt k h1 h2 h3⟩, h.nodup⟩

theorem ptrs_set (l : CurL) (n : Int) (c : Cur) : ptrs (setC l n c) = ptrs l := by
  unfold ptrs setC
  rw [List.map_map]
  refine List.map_congr_left fun p _ => ?_
  by_cases h : p.1 = n <;> simp [h]
theorem blocks_set (l : CurL) (n : Int) (c : Cur) : (setC l n c).map (fun p => p.2.1) = l.map fun p => p.2.1 := by
  unfold setC
  rw [List.map_map]
  refine List.map_congr_left fun p _ => ?_
  by_cases h : p.1 = n <;> simp [h]

theorem lookC_mem {l : CurL} {n : Int} {b : Nat} {c : Cur} (h : lookC l n = some (b, c)) : (n, b, c) ∈ l := by
  unfold lookC at h
  obtain ⟨p, hp, e⟩ := Option.map_eq_some_iff.1 h
  have h1 := List.find?_some hp
  have h2 := List.mem_of_find?_eq_some hp
  simp only [decide_eq_true_eq] at h1
  obtain ⟨p1, p2⟩ := p
  simp only at e h1
  rw [← h1, ← e]
  exact h2

theorem ptrs_keys (l : CurL) : (ptrs l).map (·.1) = l.map (·.1) := by unfold ptrs; rw [List.map_map]; rfl

theorem TabAt.keys {w : World} {B bt bm : Nat} {idle last : Int} {l : CurL} (h : TabAt w B bt bm idle last l) : (l.map (·.1)).Nodup := by
  obtain ⟨es, clock, _, _, hn, _⟩ := h.map
  rw [ptrs_keys] at hn
  exact hn

theorem lookC_of_mem {l : CurL} (hn : (l.map (·.1)).Nodup) {q : Int × Nat × Cur} (hq : q ∈ l) : lookC l q.1 = some q.2 := by
  unfold lookC
  induction l with
  | nil => simp at hq
  | cons p l ih =>
    simp only [List.map_cons, List.nodup_cons] at hn
    rcases List.mem_cons.1 hq with rfl | hq
    · simp
    · have : p.1 ≠ q.1 := fun e => hn.1 (by rw [e]; exact List.mem_map.2 ⟨q, hq, rfl⟩)
      simp only [List.find?_cons, this, decide_false]
      exact ih hn.2 hq

theorem nodup_inj {l : CurL} (hn : (l.map fun p => p.2.1).Nodup) {q : Int × Nat × Cur} {n : Int} {b : Nat} {c : Cur} (hq : q ∈ l) (hm : (n, b, c) ∈ l) (e : q.2.1 = b) : q.1 = n := by
  induction l with
  | nil => simp at hq
  | cons p l ih =>
    simp only [List.map_cons, List.nodup_cons] at hn
    rcases List.mem_cons.1 hq with rfl | hq <;> rcases List.mem_cons.1 hm with hm | hm
    · rw [← hm]
    · exact absurd (List.mem_map.2 ⟨_, hm, e.symm⟩) hn.1
    · exact absurd (List.mem_map.2 ⟨_, hq, by rw [← hm]; exact e⟩) hn.1
    · exact ih hn.2 hq hm

/-- One cursor turns. -/
theorem TabAt.set {w w' : World} {B bt bm : Nat} {idle last : Int} {l : CurL} {n : Int} {b : Nat} {c : Cur} (h : TabAt w B bt bm idle last l) (hl : lookC l n = some (b, c)) (c' : Cur) (k : Kp (fun i => i = b) w w') (hc : CurAt w' b c') : TabAt w' B bt bm idle last (setC l n c') := by
  have hm := lookC_mem hl
  obtain ⟨hb, v, a, y, z, p0, _⟩ := h.cur _ hm
  have hkeys := h.keys
  refine ⟨h.blk.kp k (h.blk.ne p0 (by decide)), ?_, h.bt, h.bm, fun p hp => ?_, by rw [blocks_set]; exact h.nodup⟩
  · rw [ptrs_set]
    exact h.map.kp k (h.map.ne_blk p0)
  · unfold setC at hp
    obtain ⟨q, hq, rfl⟩ := List.mem_map.1 hp
    by_cases hqn : q.1 = n
    · have hqb : q.2.1 = b := by
        have := lookC_of_mem hkeys hq
        rw [hqn, hl] at this
        have := congrArg (Option.map (·.1)) this
        simpa using this.symm
      simp only [hqn, if_true]
      rw [hqb]
      exact ⟨hb, hc⟩
    · simp only [hqn, if_false]
      refine ⟨(h.cur q hq).1, (h.cur q hq).2.other p0 (by decide) (by decide) ?_ k⟩
      intro e
      exact hqn (nodup_inj h.nodup hq hm e)
theorem tab_new (idle : Int) (w : World) (B : Nat) (hB : B ≤ w.heap.size) :
    Calls Try.prog 26 #[.int .u32 idle] w fun e w' => ∃ bt bm, e = .returned (.pointer (some ⟨bt, 0, none⟩)) ∧ TabAt w' B bt bm idle 0 [] ∧ Kp (fun _ => False) w w' := by
  have hmm := @run_makeMap Try.prog
  go_enter Try.func26, Try.ntmps26
  go_wp2_with fail
  go_ret
  have kk := ((Kp.refl (fun _ => False) w).alloc (.map #[] 0)).alloc (.cells #[.int .u32 idle, .map (some w.heap.size), .int .u32 0] 96)
  have hb := Blk.new (w.alloc (.map #[] 0)) #[.int .u32 idle, .map (some w.heap.size), .int .u32 0] 96
  rw [show (w.alloc (.map #[] 0)).heap.size = w.heap.size + 1 by simp] at hb
  exact ⟨w.heap.size + 1, w.heap.size, rfl, ⟨hb, (MapAt.new w _).alloc _, by omega, by omega, by simp, by simp⟩, kk⟩

theorem tab_len (w : World) {B bt bm : Nat} {idle last : Int} {l : CurL} (h : TabAt w B bt bm idle last l) :
    Calls Try.prog 33 #[.pointer (some ⟨bt, 0, none⟩)] w fun e w' => e = .returned (.int .i64 l.length) ∧ w = w' := by
  have c1 := (h.blk.cell 1).trans rfl
  have hlen : ∀ ty, (Builtin.len_ #[94] ty #[.map (some bm)]).run Try.prog w = .ok (.int .i64 l.length) w := fun ty => by
    have := h.map.len (P := Try.prog) (t := 94) (ty := ty) Try.underlying94
    simpa [ptrs] using this
  clear h
  go_enter Try.func33, Try.ntmps33
  go_wp2_with fail
  go_ret
  exact ⟨rfl, rfl⟩
end Go.Proofs.Ytcamhpjgpjihhaa

/- The hub's state: connections, sessions, and what a step does to it. -/
import Derived.Test.YtigdbooadelciaaGreatCredP
import Derived.Test.YtigdbooadelciaaGreatDedP
import Derived.Test.YtigdbooadelciaaGreatKt
namespace Go.Proofs.YtigdbooadelciaaGreat
set_option linter.unusedVariables false
set_option linter.unusedSimpArgs false
open Go.RowKit

/-- A session: its table (acknowledged, done, the answers kept), its window, its connection (number, block), since when it has none. -/
structure SS where
  caps : Int
  done : Int
  acked : Int
  m : List (Int × Value)
  ws : Int
  wl : Int
  conn : Option (Int × Nat)
  since : Int
  bd : Nat
  br : Nat
  bw : Nat

/-- Sessions: token, block; connections: number, block, its session's token and block. -/
abbrev SesL := List (Int × Nat × SS)
abbrev ConL := List (Int × Nat × Option (Int × Nat))

def ptrO (o : Option (Int × Nat)) : Value := .pointer (o.map fun q => ⟨q.2, 0, none⟩)
def sesCells (t : Int) (S : SS) : Array Value := #[.int .u64 t, .int .u32 S.caps, .pointer (some ⟨S.bd, 0, none⟩), .pointer (some ⟨S.bw, 0, none⟩), ptrO S.conn, .int .u32 S.since]
def SesAt (w : World) (t : Int) (b : Nat) (S : SS) : Prop := Blk w b (sesCells t S) 120 ∧ TabAt w S.bd S.br S.done S.acked S.m ∧ WinAt w S.bw S.ws S.wl
def ConAt (w : World) (p : Int × Nat × Option (Int × Nat)) : Prop := Blk w p.2.1 #[.int .i64 p.1, ptrO p.2.2] 116

def cptr (l : ConL) : List (Int × Value) := l.map fun p => (p.1, .pointer (some ⟨p.2.1, 0, none⟩))
def sptr (l : SesL) : List (Int × Value) := l.map fun p => (p.1, .pointer (some ⟨p.2.1, 0, none⟩))

def kvI (n : Int) : Value := .int .i64 n
def kvU (n : Int) : Value := .int .u64 n

structure HubAt (w : World) (B bh bc bl : Nat) (caps size away last : Int) (cs : ConL) (ss : SesL) : Prop where
  blk : Blk w bh #[.int .u32 caps, .int .i64 size, .int .u32 away, .map (some bc), .map (some bl), .int .u64 last] 112
  cm : MapAt w bc kvI (cptr cs)
  lm : MapAt w bl kvU (sptr ss)
  con : ∀ p ∈ cs, B ≤ p.2.1 ∧ ConAt w p
  ses : ∀ p ∈ ss, (B ≤ p.2.1 ∧ B ≤ p.2.2.bd ∧ B ≤ p.2.2.br ∧ B ≤ p.2.2.bw) ∧ SesAt w p.1 p.2.1 p.2.2
  hbh : B ≤ bh
  hbc : B ≤ bc
  hbl : B ≤ bl
  maps : (bc :: bl :: ss.map fun p => p.2.2.br).Nodup
  cnd : (cs.map fun p => p.2.1).Nodup
  snd : (ss.map fun p => p.2.1).Nodup
  dnd : (ss.map fun p => p.2.2.bd).Nodup
  wnd : (ss.map fun p => p.2.2.bw).Nodup

/-- What a step turns that turns just one block, of a session. -/
theorem WinAt.kp' {S : Nat → Prop} {w w' : World} {b : Nat} {s l : Int} (h : WinAt w b s l) (k : Kp S w w') (hn : ¬ S b) : WinAt w' b s l := Blk.kp h k hn
theorem SesAt.kp {S : Nat → Prop} {w w' : World} {t : Int} {b : Nat} {s : SS} (h : SesAt w t b s) (k : Kp S w w') (h1 : ¬ S b) (h2 : ¬ S s.bd) (h3 : ¬ S s.br) (h4 : ¬ S s.bw) : SesAt w' t b s :=
  ⟨h.1.kp k h1, h.2.1.kp k h2 h3, h.2.2.kp' k h4⟩
theorem HubAt.kp0 {w w' : World} {B bh bc bl : Nat} {caps size away last : Int} {cs : ConL} {ss : SesL} (h : HubAt w B bh bc bl caps size away last cs ss) (k : Kp (fun _ => False) w w') : HubAt w' B bh bc bl caps size away last cs ss :=
  ⟨h.blk.kp k id, h.cm.kp k id, h.lm.kp k id, fun p hp => ⟨(h.con p hp).1, (h.con p hp).2.kp k id⟩, fun p hp => ⟨(h.ses p hp).1, (h.ses p hp).2.kp k id id id id⟩, h.hbh, h.hbc, h.hbl, h.maps, h.cnd, h.snd, h.dnd, h.wnd⟩

section
variable {w w' : World} {B bh bc bl : Nat} {caps size away last : Int} {cs : ConL} {ss : SesL}

/-- A step that turns one block of cells of no type of these. -/
theorem HubAt.foreign (h : HubAt w B bh bc bl caps size away last cs ss) {g : Nat} {c : Array Value} {t : TypeId} (hg : Blk w g c t) (k : Kp (fun i => i = g) w w')
    (h1 : t ≠ 112) (h2 : t ≠ 116) (h3 : t ≠ 120) (h4 : t ≠ 297) (h5 : t ≠ 300) : HubAt w' B bh bc bl caps size away last cs ss := by
  refine ⟨h.blk.kp k (h.blk.ne hg (Ne.symm h1)), h.cm.kp k (h.cm.ne_blk hg), h.lm.kp k (h.lm.ne_blk hg), fun p hp => ⟨(h.con p hp).1, ?_⟩, fun p hp => ⟨(h.ses p hp).1, ?_⟩, h.hbh, h.hbc, h.hbl, h.maps, h.cnd, h.snd, h.dnd, h.wnd⟩
  · exact (h.con p hp).2.kp k (Blk.ne (h.con p hp).2 hg (Ne.symm h2))
  · obtain ⟨s1, s2, s3⟩ := (h.ses p hp).2
    exact ⟨s1.kp k (s1.ne hg (Ne.symm h3)), s2.kp k (s2.1.ne hg (Ne.symm h4)) (s2.2.ne_blk hg), s3.kp' k (Blk.ne s3 hg (Ne.symm h5))⟩

theorem nodup_at {α β : Type} {l : List α} {f : α → β} (h : (l.map f).Nodup) {a b : α} (ha : a ∈ l) (hb : b ∈ l) (e : f a = f b) : a = b := by
  induction l with
  | nil => simp at ha
  | cons x l ih =>
    simp only [List.map_cons, List.nodup_cons] at h
    rcases List.mem_cons.1 ha with rfl | ha2 <;> rcases List.mem_cons.1 hb with rfl | hb2
    · rfl
    · exact absurd (List.mem_map.2 ⟨_, hb2, e.symm⟩) h.1
    · exact absurd (List.mem_map.2 ⟨_, ha2, e⟩) h.1
    · exact ih h.2 ha2 hb2

/-- One session turns; its blocks stay where they are. -/
def setS (ss : SesL) (t : Int) (S : SS) : SesL := ss.map fun p => if p.1 = t then (p.1, p.2.1, S) else p
def lookS (ss : SesL) (t : Int) : Option (Nat × SS) := (ss.find? fun p => decide (p.1 = t)).map (·.2)
def lookN (cs : ConL) (n : Int) : Option (Nat × Option (Int × Nat)) := (cs.find? fun p => decide (p.1 = n)).map (·.2)
def delN (cs : ConL) (n : Int) : ConL := cs.filter fun p => decide (p.1 ≠ n)
def delS (ss : SesL) (t : Int) : SesL := ss.filter fun p => decide (p.1 ≠ t)
def setN (cs : ConL) (n : Int) (o : Option (Int × Nat)) : ConL := cs.map fun p => if p.1 = n then (p.1, p.2.1, o) else p

theorem setS_ptr (ss : SesL) (t : Int) (S : SS) : sptr (setS ss t S) = sptr ss := by
  unfold sptr setS
  rw [List.map_map]
  refine List.map_congr_left fun p _ => ?_
  by_cases h : p.1 = t <;> simp [h]
theorem setN_ptr (cs : ConL) (n : Int) (o : Option (Int × Nat)) : cptr (setN cs n o) = cptr cs := by
  unfold cptr setN
  rw [List.map_map]
  refine List.map_congr_left fun p _ => ?_
  by_cases h : p.1 = n <;> simp [h]
theorem lookS_mem {ss : SesL} {t : Int} {b : Nat} {S : SS} (h : lookS ss t = some (b, S)) : (t, b, S) ∈ ss := by
  unfold lookS at h
  obtain ⟨p, hp, e⟩ := Option.map_eq_some_iff.1 h
  have h1 := List.find?_some hp
  have h2 := List.mem_of_find?_eq_some hp
  simp only [decide_eq_true_eq] at h1
  obtain ⟨p1, p2⟩ := p
  simp only at e h1
  rw [← h1, ← e]
  exact h2
theorem lookN_mem {cs : ConL} {n : Int} {b : Nat} {o : Option (Int × Nat)} (h : lookN cs n = some (b, o)) : (n, b, o) ∈ cs := by
  unfold lookN at h
  obtain ⟨p, hp, e⟩ := Option.map_eq_some_iff.1 h
  have h1 := List.find?_some hp
  have h2 := List.mem_of_find?_eq_some hp
  simp only [decide_eq_true_eq] at h1
  obtain ⟨p1, p2⟩ := p
  simp only at e h1
  rw [← h1, ← e]
  exact h2
theorem look_sptr (l : SesL) (n : Int) : lookM (sptr l) n = (lookS l n).map fun q => .pointer (some ⟨q.1, 0, none⟩) := by
  unfold lookM lookS sptr
  induction l with
  | nil => rfl
  | cons p l ih =>
    by_cases h : p.1 = n
    · simp [h]
    · simp only [List.map_cons, List.find?_cons, h, decide_false]
      exact ih
theorem look_cptr (l : ConL) (n : Int) : lookM (cptr l) n = (lookN l n).map fun q => .pointer (some ⟨q.1, 0, none⟩) := by
  unfold lookM lookN cptr
  induction l with
  | nil => rfl
  | cons p l ih =>
    by_cases h : p.1 = n
    · simp [h]
    · simp only [List.map_cons, List.find?_cons, h, decide_false]
      exact ih
theorem HubAt.skeys (h : HubAt w B bh bc bl caps size away last cs ss) : (ss.map (·.1)).Nodup := by
  obtain ⟨es, clock, _, _, hn, _⟩ := h.lm
  unfold sptr at hn
  rw [List.map_map] at hn
  exact hn
theorem HubAt.ckeys (h : HubAt w B bh bc bl caps size away last cs ss) : (cs.map (·.1)).Nodup := by
  obtain ⟨es, clock, _, _, hn, _⟩ := h.cm
  unfold cptr at hn
  rw [List.map_map] at hn
  exact hn

/-- A session's step: what is turned are its own blocks at most. -/
theorem HubAt.setSes (h : HubAt w B bh bc bl caps size away last cs ss) {t : Int} {b : Nat} {S S' : SS} (hl : lookS ss t = some (b, S)) (k : Kp (fun i => i = b ∨ i = S.bd ∨ i = S.br ∨ i = S.bw) w w') (hs : SesAt w' t b S') (e1 : S'.bd = S.bd) (e2 : S'.br = S.br) (e3 : S'.bw = S.bw) :
    HubAt w' B bh bc bl caps size away last cs (setS ss t S') := by
  have hm := lookS_mem hl
  obtain ⟨hbs, s1, s2, s3⟩ := h.ses _ hm
  simp only at hbs s1 s2 s3
  have hkeys := h.skeys
  have hbr : S.br ≠ bc ∧ S.br ≠ bl := by
    have := h.maps
    simp only [List.nodup_cons, List.mem_cons, not_or] at this
    exact ⟨fun e => this.1.2 (by rw [← e]; exact List.mem_map.2 ⟨_, hm, rfl⟩), fun e => this.2.1 (by rw [← e]; exact List.mem_map.2 ⟨_, hm, rfl⟩)⟩
  have hmp : ∀ f : Int × Nat × SS → Nat, (∀ p : Int × Nat × SS, p.1 = t → p ∈ ss → f (p.1, p.2.1, S') = f p) → (setS ss t S').map f = ss.map f := by
    intro f hf
    unfold setS
    rw [List.map_map]
    refine List.map_congr_left fun p hp => ?_
    by_cases e : p.1 = t
    · simp only [Function.comp, e, if_true]
      have := hf p e hp
      rw [e] at this
      exact this
    · simp [e]
  have huniq : ∀ p ∈ ss, p.1 = t → p = (t, b, S) := fun p hp e => nodup_at hkeys hp hm e
  refine ⟨h.blk.kp k ?_, h.cm.kp k ?_, ?_, fun p hp => ⟨(h.con p hp).1, (h.con p hp).2.kp k ?_⟩, fun p hp => ?_, h.hbh, h.hbc, h.hbl, ?_, h.cnd, ?_, ?_, ?_⟩
  · rintro (e | e | e | e)
    · exact h.blk.ne s1 (by decide) e
    · exact h.blk.ne s2.1 (by decide) e
    · exact s2.2.ne_blk h.blk e.symm
    · exact h.blk.ne s3 (by decide) e
  · rintro (e | e | e | e)
    · exact h.cm.ne_blk s1 e
    · exact h.cm.ne_blk s2.1 e
    · exact hbr.1 e.symm
    · exact h.cm.ne_blk s3 e
  · rw [setS_ptr]
    refine h.lm.kp k ?_
    rintro (e | e | e | e)
    · exact h.lm.ne_blk s1 e
    · exact h.lm.ne_blk s2.1 e
    · exact hbr.2 e.symm
    · exact h.lm.ne_blk s3 e
  · have hc := (h.con p hp).2
    rintro (e | e | e | e)
    · exact Blk.ne hc s1 (by decide) e
    · exact Blk.ne hc s2.1 (by decide) e
    · exact s2.2.ne_blk hc e.symm
    · exact Blk.ne hc s3 (by decide) e
  · unfold setS at hp
    obtain ⟨q, hq, e⟩ := List.mem_map.1 hp
    by_cases hqt : q.1 = t
    · rw [if_pos hqt] at e
      subst e
      have hq2 := huniq q hq hqt
      subst hq2
      exact ⟨⟨hbs.1, by rw [e1]; exact hbs.2.1, by rw [e2]; exact hbs.2.2.1, by rw [e3]; exact hbs.2.2.2⟩, hs⟩
    · rw [if_neg hqt] at e
      subst e
      obtain ⟨qb, q1, q2, q3⟩ := h.ses q hq
      have hne : q ≠ (t, b, S) := fun e => hqt (by rw [e])
      have hq1 : q.2.1 ≠ b := fun e => hne (nodup_at h.snd hq hm e)
      have hq2 : q.2.2.bd ≠ S.bd := fun e => hne (nodup_at h.dnd hq hm e)
      have hq3 : q.2.2.bw ≠ S.bw := fun e => hne (nodup_at h.wnd hq hm e)
      have hq4 : q.2.2.br ≠ S.br := by
        have := h.maps
        simp only [List.nodup_cons] at this
        exact fun e => hne (nodup_at (f := fun p : Int × Nat × SS => p.2.2.br) this.2.2 hq hm e)
      refine ⟨qb, SesAt.kp ⟨q1, q2, q3⟩ k ?_ ?_ ?_ ?_⟩
      · rintro (e | e | e | e)
        · exact hq1 e
        · exact q1.ne s2.1 (by decide) e
        · exact s2.2.ne_blk q1 e.symm
        · exact q1.ne s3 (by decide) e
      · rintro (e | e | e | e)
        · exact q2.1.ne s1 (by decide) e
        · exact hq2 e
        · exact s2.2.ne_blk q2.1 e.symm
        · exact q2.1.ne s3 (by decide) e
      · rintro (e | e | e | e)
        · exact q2.2.ne_blk s1 e
        · exact q2.2.ne_blk s2.1 e
        · exact hq4 e
        · exact q2.2.ne_blk s3 e
      · rintro (e | e | e | e)
        · exact Blk.ne q3 s1 (by decide) e
        · exact Blk.ne q3 s2.1 (by decide) e
        · exact s2.2.ne_blk q3 e.symm
        · exact hq3 e
  · rw [hmp (fun p => p.2.2.br) (fun p e hp => by rw [huniq p hp e]; exact e2)]
    exact h.maps
  · rw [hmp (fun p => p.2.1) (fun p e hp => rfl)]
    exact h.snd
  · rw [hmp (fun p => p.2.2.bd) (fun p e hp => by rw [huniq p hp e]; exact e1)]
    exact h.dnd
  · rw [hmp (fun p => p.2.2.bw) (fun p e hp => by rw [huniq p hp e]; exact e3)]
    exact h.wnd
end
end Go.Proofs.YtigdbooadelciaaGreat

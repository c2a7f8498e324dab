/- The hub's state: connections come and go, sessions come and go. -/
import Derived.Test.YtigdbooadelciaaGreatHub
namespace Go.Proofs.YtigdbooadelciaaGreat
set_option linter.unusedVariables false
set_option linter.unusedSimpArgs false
open Go.RowKit
section
variable {w w' : World} {B bh bc bl : Nat} {caps size away last : Int} {cs : ConL} {ss : SesL}

theorem delN_ptr (cs : ConL) (n : Int) : cptr (delN cs n) = delM (cptr cs) n := by
  unfold cptr delN delM
  rw [List.filter_map]
  rfl
theorem delS_ptr (ss : SesL) (n : Int) : sptr (delS ss n) = delM (sptr ss) n := by
  unfold sptr delS delM
  rw [List.filter_map]
  rfl
theorem maps_ne (h : HubAt w B bh bc bl caps size away last cs ss) : bc ≠ bl ∧ ∀ p ∈ ss, p.2.2.br ≠ bc ∧ p.2.2.br ≠ bl := by
  have := h.maps
  simp only [List.nodup_cons, List.mem_cons, not_or] at this
  exact ⟨this.1.1, fun p hp => ⟨fun e => this.1.2 (by rw [← e]; exact List.mem_map.2 ⟨_, hp, rfl⟩), fun e => this.2.1 (by rw [← e]; exact List.mem_map.2 ⟨_, hp, rfl⟩)⟩⟩

/-- delete(h.conns, n). -/
theorem HubAt.delCon (h : HubAt w B bh bc bl caps size away last cs ss) (n : Int) (hm : MapAt w' bc kvI (delM (cptr cs) n)) (k : Kp (fun i => i = bc) w w') : HubAt w' B bh bc bl caps size away last (delN cs n) ss := by
  obtain ⟨m1, m2⟩ := maps_ne h
  refine ⟨h.blk.kp k (fun e => h.cm.ne_blk h.blk e.symm), by rw [delN_ptr]; exact hm, h.lm.kp k (Ne.symm m1), fun p hp => ?_, fun p hp => ?_, h.hbh, h.hbc, h.hbl, h.maps, ?_, h.snd, h.dnd, h.wnd⟩
  · have hp := (List.mem_filter.1 hp).1
    exact ⟨(h.con p hp).1, (h.con p hp).2.kp k (fun e => h.cm.ne_blk (h.con p hp).2 e.symm)⟩
  · obtain ⟨s1, s2, s3⟩ := (h.ses p hp).2
    exact ⟨(h.ses p hp).1, SesAt.kp ⟨s1, s2, s3⟩ k (fun e => h.cm.ne_blk s1 e.symm) (fun e => h.cm.ne_blk s2.1 e.symm) (m2 p hp).1 (fun e => h.cm.ne_blk s3 e.symm)⟩
  · exact h.cnd.sublist (List.filter_sublist.map _)
/-- delete(h.l, t). -/
theorem HubAt.delSes (h : HubAt w B bh bc bl caps size away last cs ss) (n : Int) (hm : MapAt w' bl kvU (delM (sptr ss) n)) (k : Kp (fun i => i = bl) w w') : HubAt w' B bh bc bl caps size away last cs (delS ss n) := by
  obtain ⟨m1, m2⟩ := maps_ne h
  refine ⟨h.blk.kp k (fun e => h.lm.ne_blk h.blk e.symm), h.cm.kp k m1, by rw [delS_ptr]; exact hm, fun p hp => ⟨(h.con p hp).1, (h.con p hp).2.kp k (fun e => h.lm.ne_blk (h.con p hp).2 e.symm)⟩, fun p hp => ?_, h.hbh, h.hbc, h.hbl, ?_, h.cnd, ?_, ?_, ?_⟩
  · have hp := (List.mem_filter.1 hp).1
    obtain ⟨s1, s2, s3⟩ := (h.ses p hp).2
    exact ⟨(h.ses p hp).1, SesAt.kp ⟨s1, s2, s3⟩ k (fun e => h.lm.ne_blk s1 e.symm) (fun e => h.lm.ne_blk s2.1 e.symm) (m2 p hp).2 (fun e => h.lm.ne_blk s3 e.symm)⟩
  · have hsub : List.Sublist ((delS ss n).map fun p => p.2.2.br) (ss.map fun p => p.2.2.br) := List.filter_sublist.map _
    exact h.maps.sublist ((hsub.cons_cons bl).cons_cons bc)
  · exact h.snd.sublist (List.filter_sublist.map _)
  · exact h.dnd.sublist (List.filter_sublist.map _)
  · exact h.wnd.sublist (List.filter_sublist.map _)
/-- All its blocks are of the world. -/
theorem HubAt.lts (h : HubAt w B bh bc bl caps size away last cs ss) : bh < w.heap.size ∧ bc < w.heap.size ∧ bl < w.heap.size ∧ (∀ p ∈ cs, p.2.1 < w.heap.size) ∧ ∀ p ∈ ss, p.2.1 < w.heap.size ∧ p.2.2.bd < w.heap.size ∧ p.2.2.br < w.heap.size ∧ p.2.2.bw < w.heap.size :=
  ⟨h.blk.lt, h.cm.lt, h.lm.lt, fun p hp => Blk.lt (h.con p hp).2, fun p hp => ⟨(h.ses p hp).2.1.lt, (h.ses p hp).2.2.1.1.lt, (h.ses p hp).2.2.1.2.lt, Blk.lt (h.ses p hp).2.2.2⟩⟩
/-- h.conns[n] = &conn{n: n}. -/
theorem HubAt.putCon {w0 : World} (h : HubAt w0 B bh bc bl caps size away last cs ss) (hB : B ≤ w0.heap.size) {n : Int} {b : Nat} (hb : w0.heap.size ≤ b) (hn : ∀ p ∈ cs, p.1 ≠ n) (hm : MapAt w' bc kvI (putM (cptr cs) n (.pointer (some ⟨b, 0, none⟩)))) (k : Kp (fun i => i = bc) w0 w') (hc : ConAt w' (n, b, none)) : HubAt w' B bh bc bl caps size away last (cs ++ [(n, b, none)]) ss := by
  obtain ⟨m1, m2⟩ := maps_ne h
  obtain ⟨l1, l2, l3, l4, l5⟩ := h.lts
  have hput : putM (cptr cs) n (.pointer (some ⟨b, 0, none⟩)) = cptr (cs ++ [(n, b, none)]) := by
    unfold putM cptr
    rw [if_neg]
    · simp
    · intro hc
      obtain ⟨q, hq, e⟩ := List.any_eq_true.1 hc
      obtain ⟨p, hp, rfl⟩ := List.mem_map.1 hq
      exact hn p hp (by simpa using e)
  refine ⟨h.blk.kp k (fun e => h.cm.ne_blk h.blk e.symm), by rw [← hput]; exact hm, h.lm.kp k (Ne.symm m1), fun p hp => ?_, fun p hp => ?_, h.hbh, h.hbc, h.hbl, h.maps, ?_, h.snd, h.dnd, h.wnd⟩
  · rcases List.mem_append.1 hp with hp | hp
    · exact ⟨(h.con p hp).1, (h.con p hp).2.kp k (fun e => h.cm.ne_blk (h.con p hp).2 e.symm)⟩
    · simp at hp
      subst hp
      exact ⟨by simp only; omega, hc⟩
  · obtain ⟨s1, s2, s3⟩ := (h.ses p hp).2
    exact ⟨(h.ses p hp).1, SesAt.kp ⟨s1, s2, s3⟩ k (fun e => h.cm.ne_blk s1 e.symm) (fun e => h.cm.ne_blk s2.1 e.symm) (m2 p hp).1 (fun e => h.cm.ne_blk s3 e.symm)⟩
  · rw [List.map_append, List.nodup_append]
    refine ⟨h.cnd, by simp, fun x hx y hy => ?_⟩
    obtain ⟨p, hp, rfl⟩ := List.mem_map.1 hx
    simp at hy
    have := l4 p hp
    omega
/-- c.s = s. -/
theorem HubAt.setCon (h : HubAt w B bh bc bl caps size away last cs ss) {n : Int} {b : Nat} {o o' : Option (Int × Nat)} (hl : lookN cs n = some (b, o)) (k : Kp (fun i => i = b) w w') (hc : ConAt w' (n, b, o')) : HubAt w' B bh bc bl caps size away last (setN cs n o') ss := by
  have hm := lookN_mem hl
  have hcb := (h.con _ hm).2
  have huniq : ∀ p ∈ cs, p.1 = n → p = (n, b, o) := fun p hp e => nodup_at h.ckeys hp hm e
  refine ⟨h.blk.kp k (Blk.ne h.blk hcb (by decide)), h.cm.kp k (h.cm.ne_blk hcb) |> fun x => by rw [setN_ptr]; exact x, h.lm.kp k (h.lm.ne_blk hcb), fun p hp => ?_, fun p hp => ?_, h.hbh, h.hbc, h.hbl, h.maps, ?_, h.snd, h.dnd, h.wnd⟩
  · unfold setN at hp
    obtain ⟨q, hq, e⟩ := List.mem_map.1 hp
    by_cases hqt : q.1 = n
    · rw [if_pos hqt] at e
      subst e
      have hq2 := huniq q hq hqt
      subst hq2
      exact ⟨(h.con _ hm).1, hc⟩
    · rw [if_neg hqt] at e
      subst e
      refine ⟨(h.con q hq).1, (h.con q hq).2.kp k ?_⟩
      intro e
      have := nodup_at h.cnd hq hm e
      exact hqt (by rw [this])
  · obtain ⟨s1, s2, s3⟩ := (h.ses p hp).2
    exact ⟨(h.ses p hp).1, SesAt.kp ⟨s1, s2, s3⟩ k (Blk.ne s1 hcb (by decide)) (Blk.ne s2.1 hcb (by decide)) (s2.2.ne_blk hcb) (Blk.ne s3 hcb (by decide))⟩
  · have : (setN cs n o').map (fun p => p.2.1) = cs.map fun p => p.2.1 := by
      unfold setN
      rw [List.map_map]
      refine List.map_congr_left fun p _ => ?_
      by_cases e : p.1 = n <;> simp [e]
    rw [this]
    exact h.cnd
/-- h.last = n. -/
theorem HubAt.setLast (h : HubAt w B bh bc bl caps size away last cs ss) (n : Int) : HubAt (w.setCell ⟨bh, 5, none⟩ (.int .u64 n)) B bh bc bl caps size away n cs ss := by
  have k := (Kp.refl (fun i => i = bh) w).set1 5 (.int .u64 n)
  refine ⟨h.blk.set 5 _, h.cm.kp k (h.cm.ne_blk h.blk), h.lm.kp k (h.lm.ne_blk h.blk), fun p hp => ⟨(h.con p hp).1, (h.con p hp).2.kp k (Blk.ne (h.con p hp).2 h.blk (by decide))⟩, fun p hp => ?_, h.hbh, h.hbc, h.hbl, h.maps, h.cnd, h.snd, h.dnd, h.wnd⟩
  obtain ⟨s1, s2, s3⟩ := (h.ses p hp).2
  exact ⟨(h.ses p hp).1, SesAt.kp ⟨s1, s2, s3⟩ k (Blk.ne s1 h.blk (by decide)) (Blk.ne s2.1 h.blk (by decide)) (s2.2.ne_blk h.blk) (Blk.ne s3 h.blk (by decide))⟩
/-- h.l[t] = s, all of whose blocks are new. -/
theorem HubAt.putSes {w0 : World} (h : HubAt w0 B bh bc bl caps size away last cs ss) {N : Nat} (hB : B ≤ N) (l2 : bc < N) (l3 : bl < N) (l5 : ∀ p ∈ ss, p.2.1 < N ∧ p.2.2.bd < N ∧ p.2.2.br < N ∧ p.2.2.bw < N) {t : Int} {b : Nat} {S : SS} (hb : N ≤ b) (hd : N ≤ S.bd) (hr : N ≤ S.br) (hw : N ≤ S.bw) (hn : ∀ p ∈ ss, p.1 ≠ t) (hm : MapAt w' bl kvU (sptr ss ++ [(t, .pointer (some ⟨b, 0, none⟩))])) (k : Kp (fun i => i = bl) w0 w') (hs : SesAt w' t b S) : HubAt w' B bh bc bl caps size away last cs (ss ++ [(t, b, S)]) := by
  obtain ⟨m1, m2⟩ := maps_ne h
  have hput : sptr ss ++ [(t, .pointer (some ⟨b, 0, none⟩))] = sptr (ss ++ [(t, b, S)]) := by unfold sptr; simp
  have hap : ∀ f : Int × Nat × SS → Nat, (ss.map f).Nodup → (∀ p ∈ ss, f p < N) → N ≤ f (t, b, S) → ((ss ++ [(t, b, S)]).map f).Nodup := by
    intro f h1 h2 h3
    rw [List.map_append, List.nodup_append]
    refine ⟨h1, by simp, fun x hx y hy => ?_⟩
    obtain ⟨p, hp, rfl⟩ := List.mem_map.1 hx
    simp at hy
    have := h2 p hp
    rw [hy]
    omega
  refine ⟨h.blk.kp k (fun e => h.lm.ne_blk h.blk e.symm), h.cm.kp k m1, by rw [← hput]; exact hm, fun p hp => ⟨(h.con p hp).1, (h.con p hp).2.kp k (fun e => h.lm.ne_blk (h.con p hp).2 e.symm)⟩, fun p hp => ?_, h.hbh, h.hbc, h.hbl, ?_, h.cnd, hap _ h.snd (fun p hp => (l5 p hp).1) hb, hap _ h.dnd (fun p hp => (l5 p hp).2.1) hd, hap _ h.wnd (fun p hp => (l5 p hp).2.2.2) hw⟩
  · rcases List.mem_append.1 hp with hp | hp
    · obtain ⟨s1, s2, s3⟩ := (h.ses p hp).2
      exact ⟨(h.ses p hp).1, SesAt.kp ⟨s1, s2, s3⟩ k (fun e => h.lm.ne_blk s1 e.symm) (fun e => h.lm.ne_blk s2.1 e.symm) (m2 p hp).2 (fun e => h.lm.ne_blk s3 e.symm)⟩
    · simp at hp
      subst hp
      exact ⟨by simp only; omega, hs⟩
  · have h3 := h.maps
    have h4 : ((ss ++ [(t, b, S)]).map fun p => p.2.2.br).Nodup := by
      refine hap _ ?_ (fun p hp => (l5 p hp).2.2.1) hr
      simp only [List.nodup_cons] at h3
      exact h3.2.2
    rw [List.nodup_cons, List.nodup_cons]
    refine ⟨?_, ?_, h4⟩
    · simp only [List.map_append, List.map_cons, List.map_nil, List.mem_cons, List.mem_append, not_or]
      refine ⟨m1, fun hx => ?_, by simp; omega⟩
      obtain ⟨p, hp, e⟩ := List.mem_map.1 hx
      exact (m2 p hp).1 e
    · simp only [List.map_append, List.map_cons, List.map_nil, List.mem_append]
      rintro (hx | hx)
      · obtain ⟨p, hp, e⟩ := List.mem_map.1 hx
        exact (m2 p hp).2 e
      · simp at hx; omega
end

/-- A connection has a session just if the session has it. -/
structure Link (cs : ConL) (ss : SesL) : Prop where
  c : ∀ n b t bs, (n, b, some (t, bs)) ∈ cs → ∃ S, (t, bs, S) ∈ ss ∧ S.conn = some (n, b)
  s : ∀ t bs S n b, (t, bs, S) ∈ ss → S.conn = some (n, b) → (n, b, some (t, bs)) ∈ cs
end Go.Proofs.YtigdbooadelciaaGreat

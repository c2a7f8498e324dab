/- Cursor: Open where there is no room: the eldest goes. (Printed by gen_cur12.py, a program of this session's own.) -/
import Derived.Test.YtcamhpjgpjihhaaCur11
import Derived.BigRegion
namespace Go.Proofs.Ytcamhpjgpjihhaa
set_option linter.unusedVariables false
set_option linter.unusedSimpArgs false
open Go.RowKit

/-- Used earlier, or of one tick and the smaller number. -/
def eldB (t n t' n' : Int) : Bool := decide (t < t') || (t == t' && decide (n < n'))

set_option maxRecDepth 8000 in
theorem use_less (t n t' n' : Int) (w : World) : Calls Try.prog 52 #[.agg #[.int .u32 t, .int .u32 n], .agg #[.int .u32 t', .int .u32 n']] w fun e w' => e = .returned (.bool (eldB t n t' n')) ∧ Kp (fun _ => False) w w' := by
  have kk := ((Kp.refl (fun _ => False) w).alloc (.cells #[.int .u32 t, .int .u32 n] 98)).alloc (.cells #[.int .u32 t', .int .u32 n'] 98)
  obtain ⟨r, hr⟩ : ∃ r, Hid (eldB t n t' n' = r) := ⟨_, rfl⟩
  rw [hr.out]
  by_cases h1 : t < t'
  · have e1 : decide (t < t') = true := decide_eq_true h1
    have e2 : Hid (true = r) := by unfold Hid; rw [← hr.out]; simp [eldB, h1]
    clear h1
    go_enter Try.func52, Try.ntmps52
    go_wp2_with fail
    go_ret
    exact ⟨by rw [← e2.out]; rfl, kk⟩
  · have e1 : decide (t < t') = false := decide_eq_false h1
    by_cases h2 : t = t'
    · have e3 : (t == t') = true := by simpa using h2
      have e2 : Hid (decide (n < n') = r) := by unfold Hid; rw [← hr.out]; simp [eldB, h2]
      clear h1 h2
      go_enter Try.func52, Try.ntmps52
      go_wp2_with fail
      go_ret
      exact ⟨by rw [← e2.out]; rfl, kk⟩
    · have e3 : (t == t') = false := by simpa using h2
      have e2 : Hid (false = r) := by unfold Hid; rw [← hr.out]; simp [eldB, h1, h2]
      clear h1 h2
      go_enter Try.func52, Try.ntmps52
      go_wp2_with fail
      go_ret
      exact ⟨by rw [← e2.out]; rfl, kk⟩

/-- n, used at t, is the eldest of what has come. -/
def Eldest (l : CurL) (done : List Int) (t n : Int) : Prop := (done = [] ∧ n = 0 ∧ t = 0) ∨ (∃ b c, (n, b, c) ∈ l ∧ n ∈ done ∧ t = c.used ∧ ∀ q ∈ l, q.1 ∈ done → eldB q.2.2.used q.1 t n = false)

/-- Not a row of cells and not a map. -/
def NotCM (w : World) (i : Nat) : Prop := ∀ o, w.heap[i]? = some o → (match o with | .cells _ _ _ => False | .map _ _ => False | _ => True)
theorem NotCM.blk {w : World} {i b : Nat} {cs : Array Value} {t : TypeId} (h : NotCM w i) (hb : Blk w b cs t) : b ≠ i := by
  rintro rfl
  exact h _ hb
theorem NotCM.map {κ : Type} {w : World} {i b : Nat} {kv : κ → Value} {m : List (κ × Value)} (h : NotCM w i) (hb : MapAt w b kv m) : b ≠ i := by
  rintro rfl
  obtain ⟨es, clock, he, _⟩ := hb
  exact h _ he
theorem NotCM.own {w : World} {i base n size : Nat} {e : TypeId} {v : Value} {xs : List Value} (h : NotCM w i) (ho : w.ownsRow base e size v n xs) : ∀ g, v.ownBlock = some g → g ≠ i := by
  intro g hg hgi
  subst hgi
  rcases ho.2 with ⟨rfl, _⟩ | ⟨g', cap, cur, rfl, _, hh, _⟩
  · simp [Value.ownBlock] at hg
  · simp [Value.ownBlock] at hg
    subst hg
    exact h _ hh
theorem IterAt.notCM {w : World} {b r : Nat} {m left : List (Int × Value)} (h : IterAt w b r kvK m left) : NotCM w r := by
  obtain ⟨es, clock, since, seen, c0, L, h0, h1, h2, h3, h4, h5, h6, h7, h8⟩ := h
  intro o ho
  rw [h7] at ho
  simp only [Option.some.injEq] at ho
  subst ho
  trivial
theorem IterAt.mem {w : World} {b r : Nat} {m left : List (Int × Value)} (h : IterAt w b r kvK m left) : ∀ p ∈ left, p ∈ m := by
  obtain ⟨es, clock, since, seen, c0, L, h0, h1, h2, h3, h4, h5, h6, h7, h8, h9, h10, rfl⟩ := h
  intro p hp
  obtain ⟨x, hx, rfl⟩ := List.mem_map.1 hp
  rw [← h2]
  exact List.mem_map_of_mem (List.mem_filter.1 hx).1
theorem CurAt.iter {w w' : World} {b r : Nat} {c : Cur} (h : CurAt w b c) (hr : NotCM w r) (k : Kp (fun i => i = r) w w') : CurAt w' b c := by
  obtain ⟨v, a, y, n, p0, p1, p2, p3, p4⟩ := h
  exact ⟨v, a, y, n, p0.kp k (hr.blk p0), own_kp p1 k (hr.own p1), own_kp p2 k (hr.own p2), own_kp p3 k (hr.own p3), own_kp p4 k (hr.own p4)⟩
theorem TabAt.iter {w w' : World} {B bt bm r : Nat} {idle last : Int} {l : CurL} (h : TabAt w B bt bm idle last l) (hr : NotCM w r) (k : Kp (fun i => i = r) w w') : TabAt w' B bt bm idle last l :=
  ⟨h.blk.kp k (hr.blk h.blk), h.map.kp k (hr.map h.map), h.bt, h.bm, fun p hp => ⟨(h.cur p hp).1, (h.cur p hp).2.iter hr k⟩, h.nodup⟩

theorem eld_set {w W : World} {B bt bm E g r : Nat} {idle last : Int} {l : CurL} {fc : Array Value} {m left : List (Int × Value)} {x y : Value} (a b : Value) (hT : TabAt W B bt bm idle last l) (hE : Blk W E #[x, y] 98) (hF : Blk W g fc 24) (hI : IterAt W bm r kvK m left) (kt : Kt B TC True w W) (hEw : w.heap.size ≤ E) :
    TabAt ((W.setCell ⟨E, 0, none⟩ a).setCell ⟨E, 1, none⟩ b) B bt bm idle last l ∧ Blk ((W.setCell ⟨E, 0, none⟩ a).setCell ⟨E, 1, none⟩ b) E #[a, b] 98 ∧ Blk ((W.setCell ⟨E, 0, none⟩ a).setCell ⟨E, 1, none⟩ b) g fc 24 ∧ IterAt ((W.setCell ⟨E, 0, none⟩ a).setCell ⟨E, 1, none⟩ b) bm r kvK m left ∧ Kt B TC True w ((W.setCell ⟨E, 0, none⟩ a).setCell ⟨E, 1, none⟩ b) := by
  have k := ((Kp.refl (fun i => i = E) W).set1 0 a).set1 1 b
  have kA := (Kt.refl (B := 0) (T := fun t => t = 98) (M := False) W).blk hE rfl (Nat.zero_le _) k
  exact ⟨hT.kt kA (by decide) (by decide) (by decide) (by decide) id, (hE.set 0 a).set 1 b, hF.kt kA (by decide), hI.kp k (hI.map.ne_blk hE) (fun e => hI.notCM.blk hE e.symm), kt.fresh k (fun i hi => by omega)⟩

def OpRel (w : World) (B bt bm E g r : Nat) (idle last : Int) (l : CurL) (fc : Array Value) (wr : World) : Prop :=
  ∃ (left : List (Int × Value)) (done : List Int) (t n : Int), w.heap.size ≤ r ∧ w.heap.size ≤ E ∧ IterAt wr bm r kvK (ptrs l) left ∧ (done ++ left.map (·.1)).Perm (l.map (·.1)) ∧ Eldest l done t n ∧ Blk wr E #[.int .u32 t, .int .u32 n] 98 ∧ Blk wr g fc 24 ∧ TabAt wr B bt bm idle last l ∧ Kt B TC True w wr

theorem eld_first {l : CurL} {n : Int} {b : Nat} {c : Cur} (h : (n, b, c) ∈ l) (hk : (l.map (·.1)).Nodup) : Eldest l [n] c.used n := by
  refine .inr ⟨b, c, h, by simp, rfl, fun q hq hd => ?_⟩
  simp at hd
  have : q = (n, b, c) := by
    have h1 := lookC_of_mem hk hq
    have h2 := lookC_of_mem hk h
    rw [hd] at h1
    rw [h1] at h2
    simp only [Option.some.injEq] at h2
    obtain ⟨q1, q2⟩ := q
    simp only at hd h2
    rw [hd, h2]
  rw [this]
  simp [eldB]
theorem eld_take {l : CurL} {done : List Int} {t n m : Int} {b : Nat} {c : Cur} (h : Eldest l done t n) (hm : (m, b, c) ∈ l) (hk : (l.map (·.1)).Nodup) (hl : eldB c.used m t n = true) (hn : n ≠ 0) : Eldest l (done ++ [m]) c.used m := by
  rcases h with ⟨_, h0, _⟩ | ⟨b', c', h1, h2, rfl, h4⟩
  · exact absurd h0 hn
  · refine .inr ⟨b, c, hm, by simp, rfl, fun q hq hd => ?_⟩
    rcases List.mem_append.1 hd with hd | hd
    · have := h4 q hq hd
      simp only [eldB, Bool.or_eq_false_iff, Bool.and_eq_false_iff, Bool.or_eq_true, Bool.and_eq_true, decide_eq_true_eq, decide_eq_false_iff_not, beq_iff_eq, beq_eq_false_iff_ne] at *
      omega
    · rcases eld_first hm hk with ⟨h, _⟩ | ⟨_, _, _, _, _, h5⟩
      · cases h
      · exact h5 q hq hd
theorem eld_keep {l : CurL} {done : List Int} {t n m : Int} {b : Nat} {c : Cur} (h : Eldest l done t n) (hm : (m, b, c) ∈ l) (hk : (l.map (·.1)).Nodup) (hl : eldB c.used m t n = false) (hn : n ≠ 0) : Eldest l (done ++ [m]) t n := by
  rcases h with ⟨_, h0, _⟩ | ⟨b', c', h1, h2, rfl, h4⟩
  · exact absurd h0 hn
  · refine .inr ⟨b', c', h1, by simp [h2], rfl, fun q hq hd => ?_⟩
    rcases List.mem_append.1 hd with hd | hd
    · exact h4 q hq hd
    · simp at hd
      have : q = (m, b, c) := by
        have e1 := lookC_of_mem hk hq
        have e2 := lookC_of_mem hk hm
        rw [hd] at e1
        rw [e1] at e2
        simp only [Option.some.injEq] at e2
        obtain ⟨q1, q2⟩ := q
        simp only at hd e2
        rw [hd, e2]
      rw [this]
      exact hl

/-- The eldest of a table. -/
def IsEld (l : CurL) (n : Int) (b : Nat) (c : Cur) : Prop := (n, b, c) ∈ l ∧ ∀ q ∈ l, eldB q.2.2.used q.1 c.used n = false

def FullPost (w : World) (B bt bm : Nat) (idle last : Int) (l : CurL) (c : Cur) (e : Ending) (w' : World) : Prop :=
  ∃ n0 b0 c0 b, IsEld l n0 b0 c0 ∧ e = .returned (.tuple #[.int .u32 (last + 1), .int .i64 c0.ask.pin]) ∧ TabAt w' B bt bm idle (last + 1) (delC l n0 ++ [(last + 1, b, c)]) ∧ Kt B TC True w w'

set_option maxRecDepth 8000 in
set_option maxHeartbeats 8000000 in
theorem open_full {w : World} {B bt bm : Nat} {idle last : Int} {l : CurL} (owner pin now : Int) (v a y n : Value) (vec : List Int) (al an no : List ByteArray) (h : TabAt w B bt bm idle last l) (hB : B ≤ w.heap.size) (hlen : 8 ≤ l.length) (hk : ∀ p ∈ l, 1 ≤ p.1 ∧ p.1 ≤ last) (h0 : 0 ≤ last) (h1 : last < 4294967295)
    (harg : ∀ w', Kt B TC True w w' → AskR w' [.int .i64 pin, v, a, y, n, .bool false, .int .i64 0, .int .u32 0] ⟨pin, vec, al, an, no, false, 0, 0⟩) (hs : (AskC.mk pin vec al an no false 0 0).small) :
    Calls Try.prog 27 #[.pointer (some ⟨bt, 0, none⟩), .int .u64 owner, .int .i64 pin, v, .agg #[a, y, n], .int .u32 now] w (FullPost w B bt bm idle last l (newCur owner pin vec al an no now)) := by
  obtain ⟨v', a', y', n', e, hv, ha, hy, hn⟩ := harg w (Kt.refl w)
  simp only [List.cons.injEq, Value.int.injEq, true_and, and_true] at e
  obtain ⟨rfl, rfl, rfl, rfl⟩ := e
  obtain ⟨vA, vc, rfl, -, -, -⟩ := hv.one
  obtain ⟨aA, ac, rfl, -, -, -⟩ := ha.one
  obtain ⟨yA, yc, rfl, -, -, -⟩ := hy.one
  obtain ⟨nA, nc, rfl, -, -, -⟩ := hn.one
  clear hv ha hy hn
  have kF := (Kp.refl (fun _ => False) w).alloc (.cells #[.slice aA al.length ac, .slice yA an.length yc, .slice nA no.length nc] 24)
  have hT := h.kp kF
  have c1 : w.cell? ⟨bt, 1, none⟩ = some (.map (some bm)) := (h.blk.cell 1).trans rfl
  have hbl : bt < w.heap.size := h.blk.lt
  have hnb : ¬ bt = w.heap.size := by omega
  have hlen' : ∀ ty, (Builtin.len_ #[94] ty #[.map (some bm)]).run Try.prog (w.alloc (.cells #[.slice aA al.length ac, .slice yA an.length yc, .slice nA no.length nc] 24)) = .ok (.int .i64 l.length) (w.alloc (.cells #[.slice aA al.length ac, .slice yA an.length yc, .slice nA no.length nc] 24)) := fun ty => by
    have := (h.map.alloc (.cells #[.slice aA al.length ac, .slice yA an.length yc, .slice nA no.length nc] 24)).len (P := Try.prog) (t := 94) (ty := ty) Try.underlying94
    simpa [ptrs] using this
  have hd8 : decide ((8 : Int) ≤ (l.length : Int)) = true := decide_eq_true (by omega)
  have hF := Blk.new w #[.slice aA al.length ac, .slice yA an.length yc, .slice nA no.length nc] 24
  have kE := kF.alloc (.cells #[.int .u32 0, .int .u32 0] 98)
  have hTE := h.kp kE
  have hFE := hF.alloc (.cells #[.int .u32 0, .int .u32 0] 98)
  have hE := Blk.new (w.alloc (.cells #[.slice aA al.length ac, .slice yA an.length yc, .slice nA no.length nc] 24)) #[.int .u32 0, .int .u32 0] 98
  have hgE : (w.alloc (.cells #[.slice aA al.length ac, .slice yA an.length yc, .slice nA no.length nc] 24)).heap.size = w.heap.size + 1 := by simp
  rw [hgE] at hE
  obtain ⟨w3, hrng, hI, k3, hs3⟩ := hTE.map.range (P := Try.prog) (t := 94) Try.underlying94
  have hgE2 : ((w.alloc (.cells #[.slice aA al.length ac, .slice yA an.length yc, .slice nA no.length nc] 24)).alloc (.cells #[.int .u32 0, .int .u32 0] 98)).heap.size = w.heap.size + 1 + 1 := by simp
  rw [hgE2] at hrng hI
  have hT3 := hTE.kp k3
  have hF3 := hFE.kp k3 id
  have hE3 := hE.kp k3 id
  have kt3 : Kt B TC True w w3 := (Kt.of_kp kE).kp k3
  have hkeys := h.keys
  have hX := Lib.hid (And.intro hI (And.intro hT3 (And.intro hF3 (And.intro hE3 kt3))))
  have hkH := Lib.hid hk
  have hkeysH := Lib.hid hkeys
  have hargH := Lib.hid (And.intro harg hs)
  have hlH := Lib.hid hlen
  have hbH := Lib.hid (And.intro h0 h1)
  clear h hlen hk h0 h1 harg hs kF hT hF kE hTE hFE hE hgE hgE2 hI k3 hs3 hT3 hF3 hE3 kt3 hkeys
  go_enter Try.func27, Try.ntmps27
  go_wp2_with fail
  obtain ⟨hI, hT3, hF3, hE3, kt3⟩ := hX.out
  clear hX hlen' hd8 c1 hnb hbl hrng
  go_loopw [16] (fun _ wr => OpRel w B bt bm (w.heap.size + 1) w.heap.size (w.heap.size + 1 + 1) idle last l #[.slice aA al.length ac, .slice yA an.length yc, .slice nA no.length nc] wr) (fun _ wr => leftK bm (w.heap.size + 1 + 1) (ptrs l) wr)
  case atStart => exact ⟨ptrs l, [], 0, 0, by omega, by omega, hI, by rw [List.nil_append, ptrs_keys], .inl ⟨rfl, rfl, rfl⟩, hE3, hF3, hT3, kt3⟩
  case round =>
    clear hI hT3 hF3 hE3 kt3
    obtain ⟨left, done, t, n0, hrw, hEw, hI, hP, hEl, hE, hF, hT, kt⟩ := hrel
    generalize w.heap.size + 1 + 1 = r at *
    generalize hgE : w.heap.size + 1 = E at *
    generalize hgg : w.heap.size = g at *
    have hsH := Lib.hid (And.intro hgE hgg)
    have hge : Hid (w.heap.size ≤ r ∧ w.heap.size ≤ E) := ⟨by rw [hgg]; exact hrw, by rw [hgg]; exact hEw⟩
    clear hgE hgg hrw hEw
    rcases hI.next (P := Try.prog) 0 with ⟨rfl, hnext⟩ | ⟨p, left', w2, hperm, hnext, hI2, hk2, hs2, hentry⟩
    · have hne : done ≠ [] := by
        intro e
        subst e
        have h1 := hP.length_eq
        simp at h1
        have := hlH.out
        omega
      obtain ⟨b0, c0, hm0, -, rfl, h4⟩ : ∃ b c, (n0, b, c) ∈ l ∧ n0 ∈ done ∧ t = c.used ∧ ∀ q ∈ l, q.1 ∈ done → eldB q.2.2.used q.1 t n0 = false := by
        rcases hEl with h | h
        · exact absurd h.1 hne
        · exact h
      have hIs : Hid (IsEld l n0 b0 c0) := ⟨hm0, fun q hq => h4 q hq (by
        have h1 : q.1 ∈ l.map (·.1) := List.mem_map_of_mem hq
        have h2 := hP.mem_iff.2 h1
        simpa using h2)⟩
      have hlk0 := lookC_of_mem hkeysH.out hm0
      have hlkA := fun k => tab_look (hT.kp ((Kp.refl (fun _ => False) wr).drewN k)) n0
      have hlk1 := tab_look hT n0
      have hlk2 := tab_look (hT.kp ((Kp.refl (fun _ => False) wr).drew)) n0
      simp only at hlk0
      rw [hlk0] at hlk1 hlk2
      simp only [hlk0, Option.map_some, Option.getD_some] at hlkA hlk1 hlk2
      have c1 : wr.cell? ⟨bt, 1, none⟩ = some (.map (some bm)) := (hT.blk.cell 1).trans rfl
      have x1 : wr.cell? ⟨E, 1, none⟩ = some (.int .u32 n0) := (hE.cell 1).trans rfl
      obtain ⟨_, v9, a9, y9, z9, q0, -⟩ := hT.cur _ hm0
      have o1 : wr.cell? ⟨b0, 1, none⟩ = some (.int .i64 c0.ask.pin) := (q0.cell 1).trans rfl
      have hTH := Lib.hid hT
      have hEH := Lib.hid hE
      have hFH := Lib.hid hF
      clear hI hP hEl hT hE hF hne h4 hm0 hlk0 q0
      go_wp2_with fail
      go_quiet (fail)
      have kt := kt.drewN nq
      have hT := hTH.out.kp ((Kp.refl (fun _ => False) wr).drewN nq)
      have hE := hEH.out.kp ((Kp.refl (fun _ => False) wr).drewN nq) id
      have hF := hFH.out.kp ((Kp.refl (fun _ => False) wr).drewN nq) id
      generalize wr.drewN nq = W0 at *
      have c1 : W0.cell? ⟨bt, 1, none⟩ = some (.map (some bm)) := (hT.blk.cell 1).trans rfl
      have x1 : W0.cell? ⟨E, 1, none⟩ = some (.int .u32 n0) := (hE.cell 1).trans rfl
      have hTd := hT.kp ((Kp.refl (fun _ => False) W0).drew)
      obtain ⟨w9, hrun, hM9, k9, hs9⟩ := hTd.map.del (P := Try.prog) (ty := 0) keyU32 Try.underlying94 n0
      have hT9 := Lib.hid (hTd.del n0 hM9 k9)
      have hF9 := Lib.hid (hF.drew.kp k9 (fun e => hTd.map.ne_blk hF.drew e.symm))
      have kt9 := Lib.hid (kt.drew.map hTd.map trivial hTd.bm k9)
      clear hTd hM9 k9 hs9 hE hF hT kt hTH hEH hFH hlkA hlk1 hlk2 o1
      go_wp2_with fail
      go_region
      clear c1 x1 hrun
      have hb := hbH.out
      have c1 : w9.cell? ⟨bt, 1, none⟩ = some (.map (some bm)) := (hT9.out.blk.cell 1).trans rfl
      have c2 : w9.cell? ⟨bt, 2, none⟩ = some (.int .u32 last) := (hT9.out.blk.cell 2).trans rfl
      have f2 := hT9.out.blk.frozen 2
      have hw : IntKind.u32.wrap (last + 1) = last + 1 := IntWalk.u32_in _ ⟨by omega, by omega⟩
      have hTW := Lib.hid (hT9.out.last (last + 1))
      have hFW := Lib.hid (hF9.out.kp ((Kp.refl (fun i => i = bt) w9).set1 2 (.int .u32 (last + 1))) (fun e => by
        have := hF9.out
        rw [e] at this
        exact absurd (this.inj hT9.out.blk).2 (by decide)))
      have ktW := Lib.hid (kt9.out.setCell hT9.out.blk (.inl rfl) hT9.out.bt 2 (.int .u32 (last + 1)))
      clear hb
      go_wp2_with fail
      have HO := Lib.hid (fun (W' : World) (k : Kp (fun _ => False) (w9.setCell ⟨bt, 2, none⟩ (.int .u32 (last + 1))) W') => prog_own [.int .i64 pin, .slice vA vec.length vc, .slice aA al.length ac, .slice yA an.length yc, .slice nA no.length nc, .bool false, .int .i64 0, .int .u32 0] ⟨pin, vec, al, an, no, false, 0, 0⟩ W' (hargH.out.1 W' (ktW.out.kp k)) hargH.out.2)
      generalize hWW : (w9.setCell ⟨bt, 2, none⟩ (.int .u32 (last + 1))) = W at *
      clear hWW c1 c2 f2
      have hgH : Hid (B ≤ W.heap.size) := by unfold Hid; have h1 := ktW.out.size; have h2 := hsH.out.2; omega
      have c1 : W.cell? ⟨bt, 1, none⟩ = some (.map (some bm)) := (hTW.out.blk.cell 1).trans rfl
      have c2 : W.cell? ⟨bt, 2, none⟩ = some (.int .u32 (last + 1)) := (hTW.out.blk.cell 2).trans rfl
      have b0' : W.cell? ⟨g, 0, none⟩ = some (.slice aA al.length ac) := (hFW.out.cell 0).trans rfl
      have b1' : W.cell? ⟨g, 1, none⟩ = some (.slice yA an.length yc) := (hFW.out.cell 1).trans rfl
      have b2' : W.cell? ⟨g, 2, none⟩ = some (.slice nA no.length nc) := (hFW.out.cell 2).trans rfl
      have q := Kp.refl (fun _ => False) W
      go_region_law
        (first
        | (go_simp; go_at_call 53; refine Calls.mono (HO.out _ ?k1) ?_; (case k1 => first | exact q | exact q.drew | exact q.drew.drew); rintro e w3 ⟨cs', rfl, ⟨v', a', y', n', rfl, t1, t2, t3, t4⟩, k3⟩; clear HO; have q3 : Kp (fun _ => False) W w3 := (by first | exact q.trans k3 | exact q.drew.trans k3); have hT3 := hTW.out.kp q3; have hM3 := hT3.map.alloc (.cells #[.int .u64 owner, .int .i64 pin, v', a', y', n', .bool false, .int .i64 0, .int .u32 0, .int .u32 0, .bool false, .int .i64 0, .int .u32 0, .bool false, .int .i64 0, .int .u32 0, .int .u32 now] 103); have hb3 := hT3.blk.alloc (.cells #[.int .u64 owner, .int .i64 pin, v', a', y', n', .bool false, .int .i64 0, .int .u32 0, .int .u32 0, .bool false, .int .i64 0, .int .u32 0, .bool false, .int .i64 0, .int .u32 0, .int .u32 now] 103); have l3 : bt < w3.heap.size := hT3.blk.lt; have l4 : ¬ bt = w3.heap.size := (by omega); have hT3 := Lib.hid hT3; have c1 := k3.cell0 c1; have c2 := k3.cell0 c2; obtain ⟨w8, hrun, hM8, k8, hs8⟩ := hM3.put keyU32 Try.underlying94 (last + 1) (.pointer (some ⟨w3.heap.size, 0, none⟩)); have hrunH := Lib.hid hrun; have hb8 := hb3.kp k8 (fun e => hM3.ne_blk hb3 e.symm); have c9 : w8.cell? ⟨bt, 2, none⟩ = some (.int .u32 (last + 1)) := (hb8.cell 2).trans rfl))
      all_goals
        clear c1 c2 b0' b1' b2' l3 l4 hrun hb3 hM3 hb8 hs8
        go_wp2_with fail
        go_ret2
        have t1' := OwnR.base t1 (Nat.zero_le _)
        have t2' := OwnR.base t2 (Nat.zero_le _)
        have t3' := OwnR.base t3 (Nat.zero_le _)
        have t4' := OwnR.base t4 (Nat.zero_le _)
        have kE := (Kp.refl (fun _ => False) w3).alloc (.cells #[.int .u64 owner, .int .i64 pin, v', a', y', n', .bool false, .int .i64 0, .int .u32 0, .int .u32 0, .bool false, .int .i64 0, .int .u32 0, .bool false, .int .i64 0, .int .u32 0, .int .u32 now] 103)
        have hC : CurAt (w3.alloc (.cells #[.int .u64 owner, .int .i64 pin, v', a', y', n', .bool false, .int .i64 0, .int .u32 0, .int .u32 0, .bool false, .int .i64 0, .int .u32 0, .bool false, .int .i64 0, .int .u32 0, .int .u32 now] 103)) w3.heap.size (newCur owner pin vec al an no now) := ⟨_, _, _, _, Blk.new w3 _ _, OwnR.kp t1' kE, OwnR.kp t2' kE, OwnR.kp t3' kE, OwnR.kp t4' kE⟩
        have hT4 := hT3.out.kp kE
        have hgw := hgH.out
        have s3 := q3.size
        refine ⟨n0, b0, c0, w3.heap.size, hIs.out, rfl, hT4.add (by omega) hC (fun p hp => ?_) (fun p hp => ?_) hM8 k8, ((ktW.out.kp q3).kp kE).map hT4.map trivial hT4.bm k8⟩
        · have := hT3.out.lt p hp
          omega
        · have := (hkH.out p (List.mem_filter.1 hp).1).2
          omega
    · have hpm := hI.mem p (hperm.mem_iff.2 (by simp))
      unfold ptrs at hpm
      obtain ⟨⟨n', b', c'⟩, hpl, rfl⟩ := List.mem_map.1 hpm
      have hP2 : ((done ++ [n']) ++ left'.map (·.1)).Perm (l.map (·.1)) := by
        refine List.Perm.trans ?_ hP
        rw [List.append_assoc]
        exact List.Perm.append_left done (by simpa using (hperm.map (·.1)).symm)
      have hP2 := Lib.hid hP2
      have hnc := hI.notCM
      have hT2 := hT.iter hnc hk2
      have hE2 := hE.kp hk2 (hnc.blk hE)
      have hF2 := hF.kp hk2 (hnc.blk hF)
      have kt2 := kt.fresh hk2 (fun i hi => by have := hge.out; omega)
      have hll : left.length = left'.length + 1 := by have := hperm.length_eq; simpa using this
      have hmea := Lib.hid (leftK_eq hI)
      have hllH := Lib.hid hll
      dsimp only [kvK] at hnext hentry
      obtain ⟨_, v', a', y', z', q0, -⟩ := hT2.cur _ hpl
      have o16 : w2.cell? ⟨b', 16, none⟩ = some (.int .u32 c'.used) := (q0.cell 16).trans rfl
      have hElH := Lib.hid hEl
      have hplH := Lib.hid hpl
      have kU := (Kp.refl (fun _ => False) w2).alloc (.cells #[.int .u32 c'.used, .int .u32 n'] 98)
      have hT4 := hT2.kp kU
      have hE4 := hE2.kp kU id
      have hF4 := hF2.kp kU id
      have hI4 := IterAt.kp hI2 kU id id
      have kt4 := kt2.kp kU
      have x0 : w2.cell? ⟨E, 0, none⟩ = some (.int .u32 t) := (hE2.cell 0).trans rfl
      have x1 : w2.cell? ⟨E, 1, none⟩ = some (.int .u32 n0) := (hE2.cell 1).trans rfl
      have g0 := hE2.frozen 0
      have g1 := hE2.frozen 1
      have hEl2 : E < w2.heap.size := hE2.lt
      have hEl3 : ¬ E = w2.heap.size := by omega
      have hS2 := Lib.hid (And.intro hT2 (And.intro hE2 (And.intro hF2 (And.intro hI2 kt2))))
      have hS4 := Lib.hid (And.intro hT4 (And.intro hE4 (And.intro hF4 (And.intro hI4 kt4))))
      clear hperm hpm hP hI hT hE hF kt hk2 hs2 hnc hT2 hE2 hF2 kt2 hI2 hll hEl hpl q0 kU hT4 hE4 hF4 hI4 kt4
      by_cases hn0 : n0 = 0
      · have e0 : (n0 == 0) = true := by simpa using hn0
        have hdone : done = [] := by
          rcases hElH.out with h | ⟨b1, c1', h1, _⟩
          · exact h.1
          · have := (hkH.out _ h1).1
            simp only at this
            omega
        have hn0H := Lib.hid hn0
        clear hn0
        go_wp2_with fail
        go_roundw
        case rel =>
          obtain ⟨s1, s2, s3, s4, s5⟩ := hS2.out
          obtain ⟨u1, u2, u3, u4, u5⟩ := eld_set (.int .u32 c'.used) (.int .u32 n') s1 s2 s3 s4 s5 hge.out.2
          have kA := (Kp.refl (fun _ => False) ((w2.setCell ⟨E, 0, none⟩ (.int .u32 c'.used)).setCell ⟨E, 1, none⟩ (.int .u32 n'))).alloc (.cells #[.int .u32 c'.used, .int .u32 n'] 98)
          exact ⟨left', done ++ [n'], c'.used, n', hge.out.1, hge.out.2, u4.kp kA id id, hP2.out, by rw [hdone]; exact eld_first hplH.out hkeysH.out, u2.kp kA id, u3.kp kA id, u1.kp kA, u5.kp kA⟩
        case measure =>
          obtain ⟨s1, s2, s3, s4, s5⟩ := hS2.out
          obtain ⟨u1, u2, u3, u4, u5⟩ := eld_set (.int .u32 c'.used) (.int .u32 n') s1 s2 s3 s4 s5 hge.out.2
          have kA := (Kp.refl (fun _ => False) ((w2.setCell ⟨E, 0, none⟩ (.int .u32 c'.used)).setCell ⟨E, 1, none⟩ (.int .u32 n'))).alloc (.cells #[.int .u32 c'.used, .int .u32 n'] 98)
          rw [hmea.out, leftK_eq (u4.kp kA id id), hllH.out]
          omega
      · have e0 : (n0 == 0) = false := by simpa using hn0
        have hL := Lib.hid (use_less c'.used n' t n0)
        have hn0H := Lib.hid hn0
        obtain ⟨z, hz⟩ : ∃ z, Hid (eldB c'.used n' t n0 = z) := ⟨_, rfl⟩
        rw [hz.out] at hL
        clear hn0
        go_wp2_with fail
        refine (hL.out _).mono ?_
        rintro e w5 ⟨rfl, k5⟩
        obtain ⟨s1, s2, s3, s4, s5⟩ := hS4.out
        have hT5 := s1.kp k5
        have hE5 := s2.kp k5 id
        have hF5 := s3.kp k5 id
        have hI5 := IterAt.kp s4 k5 id id
        have kt5 := s5.kp k5
        have hU5 := (Blk.new w2 #[.int .u32 c'.used, .int .u32 n'] 98).kp k5 id
        cases z
        case false =>
          have hEl' := Lib.hid (eld_keep hElH.out hplH.out hkeysH.out hz.out hn0H.out)
          clear hL s1 s2 s3 s4 s5 k5 hU5 hS4 hS2 x0 x1 g0 g1 hEl2 hEl3 o16
          go_wp2_with fail
          go_roundw
          case rel => exact ⟨left', done ++ [n'], t, n0, hge.out.1, hge.out.2, hI5, hP2.out, hEl'.out, hE5, hF5, hT5, kt5⟩
          case measure => rw [hmea.out, leftK_eq hI5, hllH.out]; omega
        case true =>
          have hEl' := Lib.hid (eld_take hElH.out hplH.out hkeysH.out hz.out hn0H.out)
          have u0 : w5.cell? ⟨w2.heap.size, 0, none⟩ = some (.int .u32 c'.used) := (hU5.cell 0).trans rfl
          have u1 : w5.cell? ⟨w2.heap.size, 1, none⟩ = some (.int .u32 n') := (hU5.cell 1).trans rfl
          have x0 : w5.cell? ⟨E, 0, none⟩ = some (.int .u32 t) := (hE5.cell 0).trans rfl
          have x1 : w5.cell? ⟨E, 1, none⟩ = some (.int .u32 n0) := (hE5.cell 1).trans rfl
          have g0 := hE5.frozen 0
          have g1 := hE5.frozen 1
          have hS5 := Lib.hid (eld_set (.int .u32 c'.used) (.int .u32 n') hT5 hE5 hF5 hI5 kt5 hge.out.2)
          clear hL s1 s2 s3 s4 s5 k5 hU5 hS4 hS2 o16 hT5 hE5 hF5 hI5 kt5
          generalize w2.heap.size = U at *
          go_wp2_with fail
          go_roundw
          case rel =>
            obtain ⟨u1, u2, u3, u4, u5⟩ := hS5.out
            exact ⟨left', done ++ [n'], c'.used, n', hge.out.1, hge.out.2, u4, hP2.out, hEl'.out, u2, u3, u1, u5⟩
          case measure =>
            obtain ⟨u1, u2, u3, u4, u5⟩ := hS5.out
            rw [hmea.out, leftK_eq u4, hllH.out]
            omega
end Go.Proofs.Ytcamhpjgpjihhaa

/- Cursor: Open, where there is room. -/
import Derived.Test.YtcamhpjgpjihhaaCur5
namespace Go.Proofs.Ytcamhpjgpjihhaa
set_option linter.unusedVariables false
set_option linter.unusedSimpArgs false
open Go.RowKit

theorem TabAt.last {w : World} {B bt bm : Nat} {idle last : Int} {l : CurL} (h : TabAt w B bt bm idle last l) (m : Int) : TabAt (w.setCell ⟨bt, 2, none⟩ (.int .u32 m)) B bt bm idle m l :=
  ⟨h.blk.set 2 _, h.map.setCell _ _, h.bt, h.bm, fun p hp => ⟨(h.cur p hp).1, by
    obtain ⟨_, v, a, y, z, p0, _⟩ := h.cur p hp
    exact (h.cur p hp).2.other h.blk (by decide) (by decide) (fun e => by rw [e] at p0; exact absurd (p0.inj h.blk).2 (by decide)) ((Kp.refl _ w).set1 2 _)⟩, h.nodup⟩

theorem putM_new {m : List (Int × Value)} {k : Int} {v : Value} (h : ∀ p ∈ m, p.1 ≠ k) : putM m k v = m ++ [(k, v)] := by
  unfold putM
  rw [if_neg]
  rw [Bool.not_eq_true, List.any_eq_false]
  intro p hp
  simpa using h p hp

/-- A new cursor comes in. -/
theorem TabAt.add {w w' : World} {B bt bm b : Nat} {idle last n : Int} {l : CurL} {c : Cur} (h : TabAt w B bt bm idle last l) (hB : B ≤ b) (hc : CurAt w b c) (hb : ∀ p ∈ l, p.2.1 ≠ b) (hn : ∀ p ∈ l, p.1 ≠ n)
    (hm : MapAt w' bm (fun n : Int => .int .u32 n) (putM (ptrs l) n (.pointer (some ⟨b, 0, none⟩)))) (k : Kp (fun i => i = bm) w w') : TabAt w' B bt bm idle last (l ++ [(n, b, c)]) := by
  refine ⟨h.blk.kp k (fun e => h.map.ne_blk h.blk e.symm), ?_, h.bt, h.bm, fun p hp => ?_, ?_⟩
  · rw [putM_new (fun p hp => by obtain ⟨q, hq, rfl⟩ := List.mem_map.1 hp; exact hn q hq)] at hm
    unfold ptrs at *
    simpa using hm
  · rcases List.mem_append.1 hp with hp | hp
    · exact ⟨(h.cur p hp).1, (h.cur p hp).2.map h.map k⟩
    · simp at hp
      subst hp
      exact ⟨hB, hc.map h.map k⟩
  · rw [List.map_append, List.nodup_append]
    refine ⟨h.nodup, by simp, ?_⟩
    intro x hx y hy
    simp at hy
    subst hy
    obtain ⟨p, hp, rfl⟩ := List.mem_map.1 hx
    exact hb p hp

theorem TabAt.lt {w : World} {B bt bm : Nat} {idle last : Int} {l : CurL} (h : TabAt w B bt bm idle last l) : ∀ p ∈ l, p.2.1 < w.heap.size := by
  intro p hp
  obtain ⟨_, v, a, y, z, p0, _⟩ := h.cur p hp
  exact p0.lt

def newCur (owner pin : Int) (vec : List Int) (al an no : List ByteArray) (now : Int) : Cur := ⟨owner, ⟨pin, vec, al, an, no, false, 0, 0⟩, 0, false, 0, 0, false, 0, 0, now⟩

def OpenPost (w : World) (B bt bm : Nat) (idle n gone : Int) (l : CurL) (c : Cur) (e : Ending) (w' : World) : Prop :=
  ∃ b, e = .returned (.tuple #[.int .u32 n, .int .i64 gone]) ∧ TabAt w' B bt bm idle n (l ++ [(n, b, c)]) ∧ Kt B TC True w w'

set_option maxHeartbeats 4000000 in
theorem open_room {w : World} {B bt bm : Nat} {idle last : Int} {l : CurL} (owner pin now : Int) (v a y n : Value) (vec : List Int) (al an no : List ByteArray) (h : TabAt w B bt bm idle last l) (hB : B ≤ w.heap.size) (hlen : l.length < 8) (hk : ∀ p ∈ l, p.1 ≤ last) (h0 : 0 ≤ last) (h1 : last < 4294967295)
    (harg : ∀ w', Kt B TC True w w' → AskR w' [.int .i64 pin, v, a, y, n, .bool false, .int .i64 0, .int .u32 0] ⟨pin, vec, al, an, no, false, 0, 0⟩) (hs : (AskC.mk pin vec al an no false 0 0).small) :
    Calls Try.prog 27 #[.pointer (some ⟨bt, 0, none⟩), .int .u64 owner, .int .i64 pin, v, .agg #[a, y, n], .int .u32 now] w (OpenPost w B bt bm idle (last + 1) 0 l (newCur owner pin vec al an no now)) := by
  obtain ⟨v', a', y', n', e, hv, ha, hy, hn⟩ := harg w (Kt.refl w)
  simp only [List.cons.injEq, Value.int.injEq, true_and, and_true] at e
  obtain ⟨rfl, rfl, rfl, rfl⟩ := e
  obtain ⟨vA, vc, rfl, -, -, -⟩ := hv.one
  obtain ⟨aA, ac, rfl, -, -, -⟩ := ha.one
  obtain ⟨yA, yc, rfl, -, -, -⟩ := hy.one
  obtain ⟨nA, nc, rfl, -, -, -⟩ := hn.one
  clear hv ha hy hn
  have c1 : w.cell? ⟨bt, 1, none⟩ = some (.map (some bm)) := (h.blk.cell 1).trans rfl
  have c2 : w.cell? ⟨bt, 2, none⟩ = some (.int .u32 last) := (h.blk.cell 2).trans rfl
  have f2 := h.blk.frozen 2
  have hbl : bt < w.heap.size := h.blk.lt
  have hnb : ¬ bt = w.heap.size := by omega
  have hlen' : ∀ ty, (Builtin.len_ #[94] ty #[.map (some bm)]).run Try.prog (w.alloc (.cells #[.slice aA al.length ac, .slice yA an.length yc, .slice nA no.length nc] 24)) = .ok (.int .i64 l.length) (w.alloc (.cells #[.slice aA al.length ac, .slice yA an.length yc, .slice nA no.length nc] 24)) := fun ty => by
    have := (h.map.alloc (.cells #[.slice aA al.length ac, .slice yA an.length yc, .slice nA no.length nc] 24)).len (P := Try.prog) (t := 94) (ty := ty) Try.underlying94
    simpa [ptrs] using this
  have hd8 : decide ((8 : Int) ≤ (l.length : Int)) = false := by simp; omega
  have hw : IntKind.u32.wrap (last + 1) = last + 1 := IntWalk.u32_in _ ⟨by omega, by omega⟩
  have hT := (h.last (last + 1)).kp ((Kp.refl (fun _ => False) _).alloc (.cells #[.slice aA al.length ac, .slice yA an.length yc, .slice nA no.length nc] 24))
  have hF := Blk.new (w.setCell ⟨bt, 2, none⟩ (.int .u32 (last + 1))) #[.slice aA al.length ac, .slice yA an.length yc, .slice nA no.length nc] 24
  have kt := ((Kt.refl (B := B) (T := TC) (M := True) w).setCell h.blk (.inl rfl) h.bt 2 (.int .u32 (last + 1))).alloc (.cells #[.slice aA al.length ac, .slice yA an.length yc, .slice nA no.length nc] 24)
  rw [show (w.setCell ⟨bt, 2, none⟩ (.int .u32 (last + 1))).heap.size = w.heap.size by simp] at hF
  have HO := Lib.hid (fun (W' : World) (k : Kp (fun _ => False) ((w.setCell ⟨bt, 2, none⟩ (.int .u32 (last + 1))).alloc (.cells #[.slice aA al.length ac, .slice yA an.length yc, .slice nA no.length nc] 24)) W') => prog_own [.int .i64 pin, .slice vA vec.length vc, .slice aA al.length ac, .slice yA an.length yc, .slice nA no.length nc, .bool false, .int .i64 0, .int .u32 0] ⟨pin, vec, al, an, no, false, 0, 0⟩ W' (harg W' (kt.kp k)) hs)
  have hkH := Lib.hid hk
  have hTH := Lib.hid hT
  have ktH := Lib.hid kt
  have hsz : w.heap.size ≤ ((w.setCell ⟨bt, 2, none⟩ (.int .u32 (last + 1))).alloc (.cells #[.slice aA al.length ac, .slice yA an.length yc, .slice nA no.length nc] 24)).heap.size := by simp
  clear h hlen hk h0 h1 harg hs hT kt
  go_enter Try.func27, Try.ntmps27
  go_wp2_with fail
  generalize hWW : ((w.setCell ⟨bt, 2, none⟩ (.int .u32 (last + 1))).alloc (.cells #[.slice aA al.length ac, .slice yA an.length yc, .slice nA no.length nc] 24)) = W at *
  clear hWW c1 c2 f2 hlen' hd8
  generalize hgg : w.heap.size = g at *
  have hgH : Hid (B ≤ W.heap.size) := Nat.le_trans hB hsz
  clear hgg
  have c1 : W.cell? ⟨bt, 1, none⟩ = some (.map (some bm)) := (hTH.out.blk.cell 1).trans rfl
  have c2 : W.cell? ⟨bt, 2, none⟩ = some (.int .u32 (last + 1)) := (hTH.out.blk.cell 2).trans rfl
  have b0 : W.cell? ⟨g, 0, none⟩ = some (.slice aA al.length ac) := (hF.cell 0).trans rfl
  have b1 : W.cell? ⟨g, 1, none⟩ = some (.slice yA an.length yc) := (hF.cell 1).trans rfl
  have b2 : W.cell? ⟨g, 2, none⟩ = some (.slice nA no.length nc) := (hF.cell 2).trans rfl
  have q := Kp.refl (fun _ => False) W
  go_region_law
    (first
    | (go_simp; go_at_call 53; refine Calls.mono (HO.out _ ?k1) ?_; (case k1 => first | exact q | exact q.drew | exact q.drew.drew); rintro e w3 ⟨cs', rfl, ⟨v', a', y', n', rfl, t1, t2, t3, t4⟩, k3⟩; clear HO; have q3 : Kp (fun _ => False) W w3 := (by first | exact q.trans k3 | exact q.drew.trans k3); have hT3 := hTH.out.kp q3; have hM3 := hT3.map.alloc (.cells #[.int .u64 owner, .int .i64 pin, v', a', y', n', .bool false, .int .i64 0, .int .u32 0, .int .u32 0, .bool false, .int .i64 0, .int .u32 0, .bool false, .int .i64 0, .int .u32 0, .int .u32 now] 103); have hb3 := hT3.blk.alloc (.cells #[.int .u64 owner, .int .i64 pin, v', a', y', n', .bool false, .int .i64 0, .int .u32 0, .int .u32 0, .bool false, .int .i64 0, .int .u32 0, .bool false, .int .i64 0, .int .u32 0, .int .u32 now] 103); have l3 : bt < w3.heap.size := hT3.blk.lt; have l4 : ¬ bt = w3.heap.size := (by omega); have hT3 := Lib.hid hT3; have c1 := k3.cell0 c1; have c2 := k3.cell0 c2; obtain ⟨w9, hrun, hM9, k9, hs9⟩ := hM3.put keyU32 Try.underlying94 (last + 1) (.pointer (some ⟨w3.heap.size, 0, none⟩)); have hrunH := Lib.hid hrun; have hb9 := hb3.kp k9 (fun e => hM3.ne_blk hb3 e.symm); have c9 : w9.cell? ⟨bt, 2, none⟩ = some (.int .u32 (last + 1)) := (hb9.cell 2).trans rfl))
  all_goals
    clear c1 c2 b0 b1 b2 l3 l4 hrun hb3 hM3 hb9 hs9
    go_wp2_with fail
    go_ret2
    have t1' := OwnR.base t1 (Nat.zero_le _)
    have t2' := OwnR.base t2 (Nat.zero_le _)
    have t3' := OwnR.base t3 (Nat.zero_le _)
    have t4' := OwnR.base t4 (Nat.zero_le _)
    have kE := (Kp.refl (fun _ => False) w3).alloc (.cells #[.int .u64 owner, .int .i64 pin, v', a', y', n', .bool false, .int .i64 0, .int .u32 0, .int .u32 0, .bool false, .int .i64 0, .int .u32 0, .bool false, .int .i64 0, .int .u32 0, .int .u32 now] 103)
    have hC : CurAt (w3.alloc (.cells #[.int .u64 owner, .int .i64 pin, v', a', y', n', .bool false, .int .i64 0, .int .u32 0, .int .u32 0, .bool false, .int .i64 0, .int .u32 0, .bool false, .int .i64 0, .int .u32 0, .int .u32 now] 103)) w3.heap.size (newCur owner pin vec al an no now) := ⟨_, _, _, _, Blk.new w3 _ _, OwnR.kp t1' kE, OwnR.kp t2' kE, OwnR.kp t3' kE, OwnR.kp t4' kE⟩
    have hT4 := hT3.out.kp kE
    have hgw := hgH.out
    have s3 := q3.size
    refine ⟨w3.heap.size, rfl, hT4.add (by omega) hC (fun p hp => ?_) (fun p hp => ?_) hM9 k9, ((ktH.out.kp q3).kp kE).map hT4.map trivial hT4.bm k9⟩
    · have := hT3.out.lt p hp
      omega
    · have := hkH.out p hp
      omega
end Go.Proofs.Ytcamhpjgpjihhaa

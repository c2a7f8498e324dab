/- The reference's table of cursors: Close, Leave, Tick. -/
import Derived.Test.YtcamhpjgpjihhaaRf4
namespace Go.Proofs.Ytcamhpjgpjihhaa
set_option linter.unusedVariables false
set_option linter.unusedSimpArgs false
open Go.RowKit
attribute [local go_sem ↓] loadC
attribute [local go_sem] isPtrA_ptr adrOf_ptr

set_option maxRecDepth 8000 in
set_option maxHeartbeats 2000000 in
theorem r14_close_none {w0 w : World} {B c : Nat} {idle last : Int} {rs : List RC} (owner n : Int) (h : RTab w0 w B c idle last rs) (hf : ∀ r ∈ rs, r.n ≠ n) (hl : rs.length ≤ 1000) :
    Calls Try.prog 41 #[.pointer (some ⟨c, 0, none⟩), .int .u64 owner, .int .u32 n] w fun e w' => e = .returned (.tuple #[.int .i64 0, .int .i64 140]) ∧ w = w' := by
  have hA := Lib.hid (r14_at_no h hf hl)
  clear h hf
  go_enter Try.func41, Try.ntmps41
  go_wp2_with fail
  refine hA.out.mono ?_
  rintro e w1 ⟨rfl, rfl⟩
  clear hA
  go_wp2_with fail
  go_ret2
  exact ⟨rfl, rfl⟩

set_option maxRecDepth 8000 in
set_option maxHeartbeats 2000000 in
theorem r14_close_other {w0 w : World} {B c : Nat} {idle last : Int} {rs : List RC} {n : Int} {i : Nat} {r : RC} (owner : Int) (h : RTab w0 w B c idle last rs) (ha : RAt rs n i r) (ho : r.owner ≠ owner) (hl : rs.length ≤ 1000) :
    Calls Try.prog 41 #[.pointer (some ⟨c, 0, none⟩), .int .u64 owner, .int .u32 n] w fun e w' => e = .returned (.tuple #[.int .i64 0, .int .i64 140]) ∧ w = w' := by
  have hA := Lib.hid (r14_at h ha hl)
  obtain ⟨g, cap, v, a, y, z, ev, d1, -, d2, -, -, -⟩ := h.look' ha
  have o1 := (d2 1 (by omega)).trans (show _ = some (Value.int .u64 r.owner) from rfl)
  have e1 : (r.owner != owner) = true := by simpa using ho
  have hlt := ha.lt
  clear h ha d2
  go_enter Try.func41, Try.ntmps41
  go_wp2_with fail
  refine hA.out.mono ?_
  rintro e w1 ⟨rfl, rfl⟩
  clear hA
  go_wp2_with fail
  go_ret2
  exact ⟨rfl, rfl⟩

set_option maxRecDepth 8000 in
set_option maxHeartbeats 2000000 in
theorem r14_close_ok {w0 w : World} {B c : Nat} {idle last : Int} {rs : List RC} {n : Int} {i : Nat} {r : RC} (owner : Int) (h : RTab w0 w B c idle last rs) (hB : B ≤ w.heap.size) (ha : RAt rs n i r) (ho : r.owner = owner) (hl : rs.length ≤ 1000) :
    Calls Try.prog 41 #[.pointer (some ⟨c, 0, none⟩), .int .u64 owner, .int .u32 n] w fun e w' => e = .returned (.tuple #[.int .i64 r.ask.pin, .int .i64 0]) ∧ RTab w0 w' B c idle last (rs.eraseIdx i) ∧ Kt B TR False w w' := by
  have hA := Lib.hid (r14_at h ha hl)
  obtain ⟨g, cap, v, a, y, z, ev, d1, -, d2, -, -, -⟩ := h.look' ha
  have o1 := (d2 1 (by omega)).trans (show _ = some (Value.int .u64 r.owner) from rfl)
  have o2 := (d2 2 (by omega)).trans (show _ = some (Value.int .i64 r.ask.pin) from rfl)
  subst ho
  have hlt := ha.lt
  have hC := Lib.hid (r14_cut h hB hlt hl)
  clear h ha d2
  go_enter Try.func41, Try.ntmps41
  go_wp2_with fail
  refine hA.out.mono ?_
  rintro e w1 ⟨rfl, rfl⟩
  clear hA
  go_wp2_with fail
  refine hC.out.mono ?_
  rintro e w1 ⟨rfl, hT1, k1⟩
  clear hC
  go_wp2_with fail
  go_ret2
  exact ⟨rfl, hT1, k1⟩

def pinsR (S : RC → Bool) (rs : List RC) : List Int := (rs.filter S).map fun r => r.ask.pin
theorem take_filter {α : Type} (S : α → Bool) (l : List α) (k : Nat) (h : k < l.length) : (l.take (k + 1)).filter S = (l.take k).filter S ++ (if S l[k] then [l[k]] else []) := by
  rw [List.take_succ_eq_append_getElem h, List.filter_append]
  by_cases hs : S l[k] <;> simp [hs]
def OwnRel (w0 w : World) (B : Nat) (S : RC → Bool) (rs : List RC) (vp v j : Value) (wr : World) : Prop :=
  ∃ k : Nat, k ≤ rs.length ∧ j = .int .i64 k ∧ RowsAt w0 wr B w.heap.size v ((rs.take k).filter fun r => !S r) ∧ OwnP wr w.heap.size vp (pinsR S (rs.take k)) ∧ Kp (fun _ => False) w wr
def RLeavePost (w0 w : World) (B c : Nat) (idle last : Int) (S : RC → Bool) (rs : List RC) (e : Ending) (w' : World) : Prop :=
  ∃ v, e = .returned v ∧ OwnP w' B v (pinsR S rs) ∧ RTab w0 w' B c idle last (rs.filter fun r => !S r) ∧ Kt B TR False w w'

def leaveR (owner : Int) (r : RC) : Bool := r.owner == owner
set_option maxRecDepth 8000 in
set_option maxHeartbeats 4000000 in
theorem r14_leave {w0 w : World} {B c : Nat} {idle last : Int} {rs : List RC} (owner : Int) (h : RTab w0 w B c idle last rs) (hB : B ≤ w.heap.size) (hl : rs.length ≤ 1000) :
    Calls Try.prog 42 #[.pointer (some ⟨c, 0, none⟩), .int .u64 owner] w (RLeavePost w0 w B c idle last (leaveR owner) rs) := by
  have hH := Lib.hid h
  obtain ⟨A, cap, c1, -, -⟩ := h.slice
  clear h
  go_enter Try.func42, Try.ntmps42
  go_wp2_with fail
  go_loopw [5, 6, 7] (fun vp v j wr => OwnRel w0 w B (leaveR owner) rs vp v j wr) (fun _ _ j _ => rs.length - (intOf j).toNat)
  case atStart => exact ⟨0, by omega, rfl, RowsAt.nil _ _ _ _, OwnR.nil _ _ _ _, Kp.refl _ _⟩
  case round =>
    clear c1
    obtain ⟨k, hk, rfl, hR, hP, kk⟩ := hrel
    have hT := hH.out.kp kk
    obtain ⟨A', cap', d1, d0, -⟩ := hT.slice
    by_cases hkl : k < rs.length
    · obtain ⟨g, cap2, v, a, y, z, ev, e1, hrd0, f2, hask, hev, -⟩ := hT.look hkl
      rw [d1] at e1
      simp only [Option.some.injEq, Value.slice.injEq] at e1
      obtain ⟨rfl, -, rfl⟩ := e1
      have o1 := (f2 1 (by omega)).trans (show _ = some (Value.int .u64 rs[k].owner) from rfl)
      have o2 := (f2 2 (by omega)).trans (show _ = some (Value.int .i64 rs[k].ask.pin) from rfl)
      have o11 := (f2 11 (by omega)).trans (show _ = some (Value.int .u32 rs[k].used) from rfl)
      obtain ⟨ms, q1, q2⟩ := hR
      have hBs : w.heap.size ≤ wr.heap.size := kk.size
      have hm : RowC w0 wr B (rowC rs[k] v a y z ev) rs[k] := ⟨_, _, _, _, _, rfl, hask, hev⟩
      have hlf := take_filter (fun r => !leaveR owner r) rs k hkl
      have hlp := take_filter (leaveR owner) rs k hkl
      have hml : ms.length ≤ 1000 := by
        have := q2.1
        have := List.length_filter_le (fun r => !leaveR owner r) (rs.take k)
        simp at this
        omega
      have hpl : (pinsR (leaveR owner) (rs.take k)).length ≤ 1000 := by
        unfold pinsR
        have := List.length_filter_le (leaveR owner) (rs.take k)
        simp at this ⊢
        omega
      cases hS : leaveR owner rs[k] with
      | true =>
        rw [hS] at hlf hlp
        have e2 : (rs[k].owner == owner) = true := hS
        have hR := Lib.hid (show RowsAt w0 wr B w.heap.size _ ((rs.take (k + 1)).filter fun r => !leaveR owner r) from ⟨ms, q1, by rw [hlf]; simpa using q2⟩)
        have hpe : Hid (pinsR (leaveR owner) (rs.take (k + 1)) = pinsR (leaveR owner) (rs.take k) ++ [rs[k].ask.pin]) := by unfold Hid pinsR; rw [hlp]; simp
        obtain ⟨AP, cp, rfl⟩ := OwnR.form hP
        have ho1 : ∀ u ∈ (#[Value.int .i64 rs[k].ask.pin] : Array Value).toList, u.oneCell' = true := by simp [Value.oneCell']
        have hTH := Lib.hid hT
        clear hlf hlp q1 q2 hm hask hev f2 hrd0 hS hT
        go_wp2_with (at_builtin; refine wp_append1 (W := wr) w.heap.size rfl (.tmp 27) (.tmp 37) 57 3 (.int .i64 0) 1 8 rfl Try.underlying57 infoInt rfl (by decide) _ (pinsR (leaveR owner) (rs.take k)).length _ #[.int .i64 rs[k].ask.pin] rfl rfl rfl ho1 hP hBs (by omega) (by omega) ?_)
        intro vp' w6 hown hg _
        have kI := (Kt.refl (B := 0) (T := fun t => t = 3) (M := False) (wr)).grown hP (Nat.zero_le _) rfl hg
        have k6 : Kp (fun _ => False) w w6 := (kk).then_ (Kp.of_grown (S := fun i => w.heap.size ≤ i) hg (fun k hk => (World.ownsRow.lt hP k hk).1)) (fun i h1 h2 => by omega)
        have hR6 := Lib.hid ((hR.out).kt kI (by decide) (by decide))
        have hP6 : OwnP w6 w.heap.size vp' (pinsR (leaveR owner) (rs.take k) ++ [rs[k].ask.pin]) := by unfold OwnP OwnR; simpa using hown
        clear hown hg ho1 hR hP kI
        go_wp2_with fail
        go_roundw
        case rel => exact ⟨k + 1, by omega, by go_num, hR6.out, by rw [hpe.out]; exact hP6, k6⟩
        case measure => simp [intOf]; omega
      | false =>
        rw [hS] at hlf hlp
        have e2 : (rs[k].owner == owner) = false := hS
        have hpe : Hid (pinsR (leaveR owner) (rs.take (k + 1)) = pinsR (leaveR owner) (rs.take k)) := by unfold Hid pinsR; rw [hlp]; simp
        have hfin : Hid ((rs.take (k + 1)).filter (fun r => !leaveR owner r) = (rs.take k).filter (fun r => !leaveR owner r) ++ [rs[k]]) := by unfold Hid; rw [hlf]; simp
        have hmH := Lib.hid hm
        have q2H := Lib.hid q2
        have hrd : rdAt wr ⟨g, k * 12, none⟩ 12 = some #[.int .u32 rs[k].n, .int .u64 rs[k].owner, .int .i64 rs[k].ask.pin, v, a, y, z, .bool rs[k].ask.has, .int .i64 rs[k].ask.ld, .int .u32 rs[k].ask.li, ev, .int .u32 rs[k].used] := hrd0
        have ho1 : Hid (∀ u ∈ (#[.int .u32 rs[k].n, .int .u64 rs[k].owner, .int .i64 rs[k].ask.pin, v, a, y, z, .bool rs[k].ask.has, .int .i64 rs[k].ask.ld, .int .u32 rs[k].ask.li, ev, .int .u32 rs[k].used] : Array Value).toList, u.oneCell' = true) := by
          have := List.all_eq_true.1 hmH.out.one.2
          exact fun u hu => this u hu
        clear hlf hlp q2 hm hask hev f2 hrd0 hS hT
        go_wp2_with (at_builtin; refine wp_append1 (W := wr) w.heap.size rfl (.tmp 39) (.tmp 47) 68 80 zC 12 176 rfl Try.underlying68 infoC rfl (by decide) _ ms.length ms.flatten #[.int .u32 rs[k].n, .int .u64 rs[k].owner, .int .i64 rs[k].ask.pin, v, a, y, z, .bool rs[k].ask.has, .int .i64 rs[k].ask.ld, .int .u32 rs[k].ask.li, ev, .int .u32 rs[k].used] rfl rfl rfl ho1.out q1.1 hBs (by omega) (by omega) ?_)
        intro v' w6 hown hg _
        have hR := rows_push (W := wr) q1 q2H.out hmH.out (by simpa [rowC] using hown) hg
        have kI := (Kt.refl (B := 0) (T := fun t => t = 80) (M := False) (wr)).grown q1.1 (Nat.zero_le _) rfl hg
        have hP6 : OwnP w6 w.heap.size _ _ := OwnR.kt (hP) kI (by decide)
        have k6 : Kp (fun _ => False) w w6 := (kk).then_ (Kp.of_grown (S := fun i => w.heap.size ≤ i) hg (fun k hk => (q1.1.lt k hk).1)) (fun i h1 h2 => by omega)
        clear hrd hown hg ho1 kI hP
        go_wp2_with fail
        go_roundw
        case rel => exact ⟨k + 1, by omega, by go_num, by rw [hfin.out]; exact hR, by rw [hpe.out]; exact hP6, k6⟩
        case measure => simp [intOf]; omega
    · have hkE : k = rs.length := by omega
      subst hkE
      have e1 : decide (rs.length < rs.length) = false := by simp
      rw [List.take_length] at hR hP
      obtain ⟨v', hT1⟩ := RTab.blk hT
      have hfz := hT1.frozen 1
      have hTH := Lib.hid (And.intro hT hR)
      obtain ⟨A2, cap2, rfl⟩ := hR.form
      have hT1H := Lib.hid hT1
      have hPH := Lib.hid hP
      obtain ⟨A3, cap3, rfl⟩ := OwnR.form hP
      clear hH hT hR hT1 hP
      go_wp2_with fail
      have hfin := RTab.store hTH.out.1 hTH.out.2 kk.size hB
      have kI := (Kt.refl (B := 0) (T := fun t => t = 70) (M := False) wr).setCell hT1H.out rfl (Nat.zero_le _) 1 (.slice A2 (rs.filter fun r => !leaveR owner r).length cap2)
      have hPf := OwnR.base (OwnR.kt hPH.out kI (by decide)) hB
      go_ret
      exact ⟨_, rfl, hPf, hfin.1, (Kt.of_kp kk).trans hfin.2⟩

def tickR (idle now : Int) (r : RC) : Bool := decide (idle < now - r.used)
set_option maxRecDepth 8000 in
set_option maxHeartbeats 4000000 in
theorem r14_tick {w0 w : World} {B c : Nat} {idle last : Int} {rs : List RC} (now : Int) (h : RTab w0 w B c idle last rs) (hB : B ≤ w.heap.size) (hl : rs.length ≤ 1000) (hn : 0 ≤ now ∧ now < 4294967296) (hu : ∀ r ∈ rs, 0 ≤ r.used ∧ r.used < 4294967296) (hi : 0 ≤ idle ∧ idle < 4294967296) :
    Calls Try.prog 43 #[.pointer (some ⟨c, 0, none⟩), .int .u32 now] w (RLeavePost w0 w B c idle last (tickR idle now) rs) := by
  have hH := Lib.hid h
  obtain ⟨A, cap, c1, -, -⟩ := h.slice
  clear h
  go_enter Try.func43, Try.ntmps43
  go_wp2_with fail
  go_loopw [5, 6, 7] (fun vp v j wr => OwnRel w0 w B (tickR idle now) rs vp v j wr) (fun _ _ j _ => rs.length - (intOf j).toNat)
  case atStart => exact ⟨0, by omega, rfl, RowsAt.nil _ _ _ _, OwnR.nil _ _ _ _, Kp.refl _ _⟩
  case round =>
    clear c1
    obtain ⟨k, hk, rfl, hR, hP, kk⟩ := hrel
    have hT := hH.out.kp kk
    obtain ⟨A', cap', d1, d0, -⟩ := hT.slice
    by_cases hkl : k < rs.length
    · obtain ⟨g, cap2, v, a, y, z, ev, e1, hrd0, f2, hask, hev, -⟩ := hT.look hkl
      rw [d1] at e1
      simp only [Option.some.injEq, Value.slice.injEq] at e1
      obtain ⟨rfl, -, rfl⟩ := e1
      have o1 := (f2 1 (by omega)).trans (show _ = some (Value.int .u64 rs[k].owner) from rfl)
      have o2 := (f2 2 (by omega)).trans (show _ = some (Value.int .i64 rs[k].ask.pin) from rfl)
      have o11 := (f2 11 (by omega)).trans (show _ = some (Value.int .u32 rs[k].used) from rfl)
      obtain ⟨ms, q1, q2⟩ := hR
      have hBs : w.heap.size ≤ wr.heap.size := kk.size
      have hm : RowC w0 wr B (rowC rs[k] v a y z ev) rs[k] := ⟨_, _, _, _, _, rfl, hask, hev⟩
      have hlf := take_filter (fun r => !tickR idle now r) rs k hkl
      have hlp := take_filter (tickR idle now) rs k hkl
      have hml : ms.length ≤ 1000 := by
        have := q2.1
        have := List.length_filter_le (fun r => !tickR idle now r) (rs.take k)
        simp at this
        omega
      have hpl : (pinsR (tickR idle now) (rs.take k)).length ≤ 1000 := by
        unfold pinsR
        have := List.length_filter_le (tickR idle now) (rs.take k)
        simp at this ⊢
        omega
      have hub := hu _ (List.getElem_mem hkl)
      have w1 : IntKind.i64.wrap (now - rs[k].used) = now - rs[k].used := IntWalk.i64_in _ ⟨by omega, by omega⟩
      cases hS : tickR idle now rs[k] with
      | true =>
        rw [hS] at hlf hlp
        have e2 : decide (idle < now - rs[k].used) = true := hS
        have hR := Lib.hid (show RowsAt w0 wr B w.heap.size _ ((rs.take (k + 1)).filter fun r => !tickR idle now r) from ⟨ms, q1, by rw [hlf]; simpa using q2⟩)
        have hpe : Hid (pinsR (tickR idle now) (rs.take (k + 1)) = pinsR (tickR idle now) (rs.take k) ++ [rs[k].ask.pin]) := by unfold Hid pinsR; rw [hlp]; simp
        obtain ⟨AP, cp, rfl⟩ := OwnR.form hP
        have ho1 : ∀ u ∈ (#[Value.int .i64 rs[k].ask.pin] : Array Value).toList, u.oneCell' = true := by simp [Value.oneCell']
        have hTH := Lib.hid hT
        clear hlf hlp q1 q2 hm hask hev f2 hrd0 hS hT
        go_wp2_with fail
        go_quiet (fail)
        clear w1
        go_wp2_with (at_builtin; refine wp_append1 (W := (wr.drewN nq)) w.heap.size rfl (.tmp 35) (.tmp 45) 57 3 (.int .i64 0) 1 8 rfl Try.underlying57 infoInt rfl (by decide) _ (pinsR (tickR idle now) (rs.take k)).length _ #[.int .i64 rs[k].ask.pin] rfl rfl rfl ho1 hP hBs (by omega) (by omega) ?_)
        intro vp' w6 hown hg _
        have kI := (Kt.refl (B := 0) (T := fun t => t = 3) (M := False) ((wr.drewN nq))).grown hP (Nat.zero_le _) rfl hg
        have k6 : Kp (fun _ => False) w w6 := (kk.drewN nq).then_ (Kp.of_grown (S := fun i => w.heap.size ≤ i) hg (fun k hk => (World.ownsRow.lt hP k hk).1)) (fun i h1 h2 => by omega)
        have hR6 := Lib.hid ((hR.out.kp ((Kp.refl _ wr).drewN nq)).kt kI (by decide) (by decide))
        have hP6 : OwnP w6 w.heap.size vp' (pinsR (tickR idle now) (rs.take k) ++ [rs[k].ask.pin]) := by unfold OwnP OwnR; simpa using hown
        clear hown hg ho1 hR hP kI
        go_wp2_with fail
        go_roundw
        case rel => exact ⟨k + 1, by omega, by go_num, hR6.out, by rw [hpe.out]; exact hP6, k6⟩
        case measure => simp [intOf]; omega
      | false =>
        rw [hS] at hlf hlp
        have e2 : decide (idle < now - rs[k].used) = false := hS
        have hpe : Hid (pinsR (tickR idle now) (rs.take (k + 1)) = pinsR (tickR idle now) (rs.take k)) := by unfold Hid pinsR; rw [hlp]; simp
        have hfin : Hid ((rs.take (k + 1)).filter (fun r => !tickR idle now r) = (rs.take k).filter (fun r => !tickR idle now r) ++ [rs[k]]) := by unfold Hid; rw [hlf]; simp
        have hmH := Lib.hid hm
        have q2H := Lib.hid q2
        have hrd : rdAt wr ⟨g, k * 12, none⟩ 12 = some #[.int .u32 rs[k].n, .int .u64 rs[k].owner, .int .i64 rs[k].ask.pin, v, a, y, z, .bool rs[k].ask.has, .int .i64 rs[k].ask.ld, .int .u32 rs[k].ask.li, ev, .int .u32 rs[k].used] := hrd0
        have ho1 : Hid (∀ u ∈ (#[.int .u32 rs[k].n, .int .u64 rs[k].owner, .int .i64 rs[k].ask.pin, v, a, y, z, .bool rs[k].ask.has, .int .i64 rs[k].ask.ld, .int .u32 rs[k].ask.li, ev, .int .u32 rs[k].used] : Array Value).toList, u.oneCell' = true) := by
          have := List.all_eq_true.1 hmH.out.one.2
          exact fun u hu => this u hu
        clear hlf hlp q2 hm hask hev f2 hrd0 hS hT
        go_wp2_with fail
        go_quiet (fail)
        clear w1
        have hrdq : rdAt (wr.drewN nq) ⟨g, k * 12, none⟩ 12 = some #[.int .u32 rs[k].n, .int .u64 rs[k].owner, .int .i64 rs[k].ask.pin, v, a, y, z, .bool rs[k].ask.has, .int .i64 rs[k].ask.ld, .int .u32 rs[k].ask.li, ev, .int .u32 rs[k].used] := hrd
        go_wp2_with (at_builtin; refine wp_append1 (W := (wr.drewN nq)) w.heap.size rfl (.tmp 47) (.tmp 55) 68 80 zC 12 176 rfl Try.underlying68 infoC rfl (by decide) _ ms.length ms.flatten #[.int .u32 rs[k].n, .int .u64 rs[k].owner, .int .i64 rs[k].ask.pin, v, a, y, z, .bool rs[k].ask.has, .int .i64 rs[k].ask.ld, .int .u32 rs[k].ask.li, ev, .int .u32 rs[k].used] rfl rfl rfl ho1.out q1.1 hBs (by omega) (by omega) ?_)
        intro v' w6 hown hg _
        have hR := rows_push (W := (wr.drewN nq)) q1 q2H.out hmH.out (by simpa [rowC] using hown) hg
        have kI := (Kt.refl (B := 0) (T := fun t => t = 80) (M := False) ((wr.drewN nq))).grown q1.1 (Nat.zero_le _) rfl hg
        have hP6 : OwnP w6 w.heap.size _ _ := OwnR.kt (OwnR.kp hP ((Kp.refl _ wr).drewN nq)) kI (by decide)
        have k6 : Kp (fun _ => False) w w6 := (kk.drewN nq).then_ (Kp.of_grown (S := fun i => w.heap.size ≤ i) hg (fun k hk => (q1.1.lt k hk).1)) (fun i h1 h2 => by omega)
        clear hrd hown hg ho1 kI hP
        go_wp2_with fail
        go_roundw
        case rel => exact ⟨k + 1, by omega, by go_num, by rw [hfin.out]; exact hR, by rw [hpe.out]; exact hP6, k6⟩
        case measure => simp [intOf]; omega
    · have hkE : k = rs.length := by omega
      subst hkE
      have e1 : decide (rs.length < rs.length) = false := by simp
      rw [List.take_length] at hR hP
      obtain ⟨v', hT1⟩ := RTab.blk hT
      have hfz := hT1.frozen 1
      have hTH := Lib.hid (And.intro hT hR)
      obtain ⟨A2, cap2, rfl⟩ := hR.form
      have hT1H := Lib.hid hT1
      have hPH := Lib.hid hP
      obtain ⟨A3, cap3, rfl⟩ := OwnR.form hP
      clear hH hT hR hT1 hP
      go_wp2_with fail
      have hfin := RTab.store hTH.out.1 hTH.out.2 kk.size hB
      have kI := (Kt.refl (B := 0) (T := fun t => t = 70) (M := False) wr).setCell hT1H.out rfl (Nat.zero_le _) 1 (.slice A2 (rs.filter fun r => !tickR idle now r).length cap2)
      have hPf := OwnR.base (OwnR.kt hPH.out kI (by decide)) hB
      go_ret
      exact ⟨_, rfl, hPf, hfin.1, (Kt.of_kp kk).trans hfin.2⟩

end Go.Proofs.Ytcamhpjgpjihhaa

/- Cursor: drop, Tick, Leave. (Printed by gen_cur10.py, a program of this session's own.) -/
import Derived.Test.YtcamhpjgpjihhaaSrt2
import Derived.Test.YtcamhpjgpjihhaaCur9
namespace Go.Proofs.Ytcamhpjgpjihhaa
set_option linter.unusedVariables false
set_option linter.unusedSimpArgs false
open Go.RowKit

def OwnP (w : World) (B : Nat) (v : Value) (l : List Int) : Prop := OwnR 3 (fun n => .int .i64 n) w B v l
theorem infoInt : (Try.prog.info? 3).map (fun i => (i.zero, i.size, i.bytes)) = some (some (.int .i64 0), 1, 8) := by kernel_rfl

theorem ptrs_del (l : CurL) (n : Int) : ptrs (delC l n) = delM (ptrs l) n := by
  unfold ptrs delC delM
  rw [List.filter_map]
  rfl
/-- A cursor goes. -/
theorem TabAt.del {w w' : World} {B bt bm : Nat} {idle last : Int} {l : CurL} (h : TabAt w B bt bm idle last l) (n : Int) (hm : MapAt w' bm (fun n : Int => .int .u32 n) (delM (ptrs l) n)) (k : Kp (fun i => i = bm) w w') : TabAt w' B bt bm idle last (delC l n) :=
  ⟨h.blk.kp k (fun e => h.map.ne_blk h.blk e.symm), by rw [ptrs_del]; exact hm, h.bt, h.bm, fun p hp => by
    have hp' : p ∈ l := (List.mem_filter.1 hp).1
    exact ⟨(h.cur p hp').1, (h.cur p hp').2.map h.map k⟩, h.nodup.sublist ((List.filter_sublist).map _)⟩

/-- Rising numbers. -/
def RiseC (l : CurL) : Prop := (l.map (·.1)).Pairwise (· < ·)
def restC (S : Cur → Bool) (l : CurL) (k : Nat) : CurL := (l.take k).filter (fun p => !S p.2.2) ++ l.drop k
def pinsC (S : Cur → Bool) (l : CurL) : List Int := (l.filter fun p => S p.2.2).map fun p => p.2.2.ask.pin

theorem restC_zero (S : Cur → Bool) (l : CurL) : restC S l 0 = l := by simp [restC]
theorem restC_end (S : Cur → Bool) (l : CurL) : restC S l l.length = l.filter fun p => !S p.2.2 := by simp [restC]
theorem restC_no {S : Cur → Bool} {l : CurL} {k : Nat} (hk : k < l.length) (h : S l[k].2.2 = false) : restC S l (k + 1) = restC S l k := by
  unfold restC
  rw [List.take_succ_eq_append_getElem hk, List.filter_append, List.drop_eq_getElem_cons hk]
  simp [h]
theorem rise_ne {l : CurL} (h : RiseC l) {i j : Nat} (hi : i < l.length) (hj : j < l.length) (hij : i ≠ j) : l[i].1 ≠ l[j].1 := by
  unfold RiseC at h
  rw [List.pairwise_map, List.pairwise_iff_getElem] at h
  rcases Nat.lt_or_gt_of_ne hij with hlt | hlt
  · have := h i j hi hj hlt; omega
  · have := h j i hj hi hlt; omega
theorem restC_yes {S : Cur → Bool} {l : CurL} {k : Nat} (hr : RiseC l) (hk : k < l.length) (h : S l[k].2.2 = true) : restC S l (k + 1) = delC (restC S l k) l[k].1 := by
  unfold restC delC
  rw [List.filter_append, List.take_succ_eq_append_getElem hk, List.filter_append, List.drop_eq_getElem_cons hk]
  have h1 : List.filter (fun p => decide (p.1 ≠ l[k].1)) (List.filter (fun p => !S p.2.2) (l.take k)) = List.filter (fun p => !S p.2.2) (l.take k) := by
    rw [List.filter_eq_self]
    intro p hp
    obtain ⟨i, hi, rfl⟩ := List.mem_iff_getElem.1 (List.mem_filter.1 hp).1
    simp at hi
    rw [List.getElem_take]
    simpa using rise_ne hr (by omega) hk (show i ≠ k by omega)
  have h2 : List.filter (fun p => decide (p.1 ≠ l[k].1)) (l[k] :: l.drop (k + 1)) = l.drop (k + 1) := by
    rw [List.filter_cons, if_neg (by simp), List.filter_eq_self]
    intro p hp
    obtain ⟨i, hi, rfl⟩ := List.mem_iff_getElem.1 hp
    simp at hi
    rw [List.getElem_drop]
    simpa using rise_ne hr (by omega) hk (show k + 1 + i ≠ k by omega)
  rw [h1, h2]
  simp [h]
theorem restC_look {S : Cur → Bool} {l : CurL} {k : Nat} (hr : RiseC l) (hk : k < l.length) : lookC (restC S l k) l[k].1 = some l[k].2 := by
  have hm : l[k] ∈ restC S l k := by
    unfold restC
    refine List.mem_append_right _ ?_
    rw [List.drop_eq_getElem_cons hk]
    exact List.mem_cons_self
  refine lookC_of_mem ?_ hm
  have hsub : (restC S l k).Sublist l := by
    unfold restC
    conv => rhs; rw [← List.take_append_drop k l]
    exact List.Sublist.append (List.filter_sublist) (List.Sublist.refl _)
  refine List.Nodup.sublist (hsub.map _) ?_
  exact List.Pairwise.imp (fun h => by omega) hr
theorem pinsC_no {S : Cur → Bool} {l : CurL} {k : Nat} (hk : k < l.length) (h : S l[k].2.2 = false) : pinsC S (l.take (k + 1)) = pinsC S (l.take k) := by
  unfold pinsC
  rw [List.take_succ_eq_append_getElem hk, List.filter_append]
  simp [h]
theorem pinsC_yes {S : Cur → Bool} {l : CurL} {k : Nat} (hk : k < l.length) (h : S l[k].2.2 = true) : pinsC S (l.take (k + 1)) = pinsC S (l.take k) ++ [l[k].2.2.ask.pin] := by
  unfold pinsC
  rw [List.take_succ_eq_append_getElem hk, List.filter_append]
  simp [h]
theorem pinsC_len (S : Cur → Bool) (l : CurL) : (pinsC S l).length ≤ l.length := by
  unfold pinsC
  rw [List.length_map]
  exact List.length_filter_le _ _

def DropPost (S : Cur → Bool) (w : World) (B bt bm : Nat) (idle last : Int) (l : CurL) (e : Ending) (w' : World) : Prop :=
  ∃ v, e = .returned v ∧ OwnP w' w.heap.size v (pinsC S l) ∧ TabAt w' B bt bm idle last (l.filter fun p => !S p.2.2) ∧ Kt B TC True w w'

theorem sorted_keys {l : CurL} (h : RiseC l) : (l.map (·.1)).Pairwise (· ≤ ·) := List.Pairwise.imp (fun h => by omega) h


def tickS (idle now : Int) (c : Cur) : Bool := decide (c.used ≤ now) && decide (idle < now - c.used)
/-- What Tick's function value has captured. -/
def TickCap (w : World) (bn bx bt : Nat) (now : Int) : Prop := Blk w bn #[.int .u32 now] 41 ∧ Blk w bx #[.pointer (some ⟨bt, 0, none⟩)] 39
theorem tick_so {w : World} {B bt bm bn bx b : Nat} {idle last now : Int} {l : CurL} {c : Cur} (hT : TabAt w B bt bm idle last l) (hc : CurAt w b c) (hcap : TickCap w bn bx bt now) (hn : 0 ≤ now ∧ now < 4294967296) (hu : 0 ≤ c.used) :
    Calls Try.prog 58 #[.pointer (some ⟨b, 0, none⟩), .pointer (some ⟨bn, 0, none⟩), .pointer (some ⟨bx, 0, none⟩)] w fun e w' => e = .returned (.bool (tickS idle now c)) ∧ Kp (fun _ => False) w w' := by
  obtain ⟨v, a, y, z, q0, -⟩ := hc
  have o16 : w.cell? ⟨b, 16, none⟩ = some (.int .u32 c.used) := (q0.cell 16).trans rfl
  have n0 : w.cell? ⟨bn, 0, none⟩ = some (.int .u32 now) := (hcap.1.cell 0).trans rfl
  have x0 : w.cell? ⟨bx, 0, none⟩ = some (.pointer (some ⟨bt, 0, none⟩)) := (hcap.2.cell 0).trans rfl
  have t0 : w.cell? ⟨bt, 0, none⟩ = some (.int .u32 idle) := (hT.blk.cell 0).trans rfl
  have kk := Kp.refl (fun _ => False) w
  obtain ⟨r, hr⟩ : ∃ r, Hid (tickS idle now c = r) := ⟨_, rfl⟩
  rw [hr.out]
  clear hT hcap q0
  by_cases hle : c.used ≤ now
  · have e0 : decide (c.used ≤ now) = true := decide_eq_true hle
    have ew : IntKind.u32.wrap (now - c.used) = now - c.used := IntWalk.u32_in _ ⟨by omega, by omega⟩
    have e2 : Hid (decide (idle < now - c.used) = r) := by
      unfold Hid
      rw [← hr.out]
      simp [tickS, hle]
    clear hle hn hu
    go_enter Try.func58, Try.ntmps58
    go_wp2_with fail
    go_quiet (fail)
    have kk := kk.drewN nq
    go_wp2_with fail
    go_ret
    exact ⟨by rw [← e2.out]; rfl, kk⟩
  · have e0 : decide (c.used ≤ now) = false := decide_eq_false hle
    have e2 : Hid (false = r) := by
      unfold Hid
      rw [← hr.out]
      simp [tickS, hle]
    clear hle hn hu
    go_enter Try.func58, Try.ntmps58
    go_wp2_with fail
    go_quiet (fail)
    have kk := kk.drewN nq
    go_wp2_with fail
    go_ret
    exact ⟨by rw [← e2.out]; rfl, kk⟩

def leaveS (owner : Int) (c : Cur) : Bool := c.owner == owner
def LeaveCap (w : World) (bo : Nat) (owner : Int) : Prop := Blk w bo #[.int .u64 owner] 44
theorem leave_so {w : World} {bo b : Nat} {owner : Int} {c : Cur} (hc : CurAt w b c) (hcap : LeaveCap w bo owner) :
    Calls Try.prog 59 #[.pointer (some ⟨b, 0, none⟩), .pointer (some ⟨bo, 0, none⟩)] w fun e w' => e = .returned (.bool (leaveS owner c)) ∧ Kp (fun _ => False) w w' := by
  obtain ⟨v, a, y, z, q0, -⟩ := hc
  have o0 : w.cell? ⟨b, 0, none⟩ = some (.int .u64 c.owner) := (q0.cell 0).trans rfl
  have n0 : w.cell? ⟨bo, 0, none⟩ = some (.int .u64 owner) := (Blk.cell hcap 0).trans rfl
  have kk := Kp.refl (fun _ => False) w
  clear hcap q0
  go_enter Try.func59, Try.ntmps59
  go_wp2_with fail
  go_quiet (fail)
  have kk := kk.drewN nq
  go_wp2_with fail
  go_ret
  exact ⟨rfl, kk⟩

def DroptickRel (w : World) (B bt bm bn bx : Nat) (idle last now : Int) (l : CurL) (vz : Value) (v i : Value) (wr : World) : Prop :=
  ∃ k : Nat, k ≤ l.length ∧ i = .int .i64 k ∧ OwnP wr w.heap.size v (pinsC (tickS idle now) (l.take k)) ∧ TabAt wr B bt bm idle last (restC (tickS idle now) l k) ∧ OwnK wr 0 vz (l.map (·.1)) ∧ TickCap wr bn bx bt now ∧ Kt B TC True w wr
set_option maxRecDepth 8000 in
set_option maxHeartbeats 4000000 in
theorem drop_tick {w : World} {B bt bm bn bx : Nat} {idle last now : Int} {l : CurL} (h : TabAt w B bt bm idle last l) (hB : B ≤ w.heap.size) (hr : RiseC l) (hlen : l.length ≤ 12) (hcap : TickCap w bn bx bt now) (hn : 0 ≤ now ∧ now < 4294967296) (hu : ∀ p ∈ l, 0 ≤ p.2.2.used) :
    Calls Try.prog 57 #[.pointer (some ⟨bt, 0, none⟩), .func (.func 58) #[] #[.pointer (some ⟨bn, 0, none⟩), .pointer (some ⟨bx, 0, none⟩)]] w (DropPost (tickS idle now) w B bt bm idle last l) := by
  have c1 : w.cell? ⟨bt, 1, none⟩ = some (.map (some bm)) := (h.blk.cell 1).trans rfl
  have hK := Lib.hid (prog_keys bm w)
  have kA := (Kp.refl (fun _ => False) w).alloc (.cells #[.map (some bm)] 94)
  have hTA := h.kp kA
  have hcapA : TickCap (w.alloc (.cells #[.map (some bm)] 94)) bn bx bt now := ⟨hcap.1.kp kA id, hcap.2.kp kA id⟩
  have hSo := Lib.hid (prog_sorted w.heap.size bm (ptrs l) (by simpa [ptrs] using hlen) (w.alloc (.cells #[.map (some bm)] 94)) (by simp) (((Blk.new w _ _).cell 0).trans rfl) hTA.map (l.map (·.1)) (by rw [ptrs_keys]) (sorted_keys hr))
  have hgw : (w.alloc (.cells #[.map (some bm)] 94)).heap.size = w.heap.size + 1 := by simp
  have hTA := Lib.hid hTA
  clear h hcap
  go_enter Try.func57, Try.ntmps57
  go_wp2_with fail
  refine hK.out.mono ?_
  rintro e w1 ⟨rfl, rfl⟩
  go_wp2_with fail
  refine hSo.out.mono ?_
  rintro e w2 ⟨vz, rfl, hz, k2⟩
  have hT := hTA.out.kp k2
  have hz := OwnR.base hz (Nat.zero_le _)
  have kt : Kt B TC True w w2 := ((Kt.of_kp kA).kp k2)
  have hcap := (⟨hcapA.1.kp k2 id, hcapA.2.kp k2 id⟩ : TickCap w2 bn bx bt now)
  obtain ⟨zA, zc, rfl⟩ := OwnR.form hz
  rw [List.length_map] at hz ⊢
  clear hK hSo hTA hcapA k2 c1 hgw
  go_wp2_with fail
  go_loopw [5, 16] (fun v i wr => DroptickRel w B bt bm bn bx idle last now l (.slice zA l.length zc) v i wr) (fun _ i _ => l.length - (intOf i).toNat)
  case atStart => exact ⟨0, by omega, rfl, (OwnR.nil _ _ _ _ : OwnP w2 w.heap.size (.slice none 0 0) []), by rw [restC_zero]; exact hT, hz, hcap, kt⟩
  case round =>
    clear hT hz hcap kt kA
    obtain ⟨k, hk, rfl, hpins, hT, hz, hcap, kt⟩ := hrel
    obtain ⟨pA, pc, rfl⟩ := OwnR.form hpins
    by_cases hlt : k < l.length
    · have hzr := OwnR.row hz
      obtain ⟨zA', zc', e, -, -, hrow⟩ := hzr.one
      simp only [Value.slice.injEq] at e
      obtain ⟨rfl, -, rfl⟩ := e
      obtain ⟨zg, zo, rfl, hcz⟩ := hrow k (by simpa using hlt)
      rw [List.getElem_map] at hcz
      have hlk := restC_look (S := (tickS idle now)) hr hlt
      have hlk2 := tab_look hT l[k].1
      rw [hlk] at hlk2
      simp only [Option.map_some, Option.getD_some] at hlk2
      have c1 : wr.cell? ⟨bt, 1, none⟩ = some (.map (some bm)) := (hT.blk.cell 1).trans rfl
      have hcu := (hT.cur _ (lookC_mem hlk)).2
      have hsoC := tick_so hT hcu hcap hn (hu l[k] (List.getElem_mem hlt))
      have hno := Lib.hid (fun h => restC_no (S := (tickS idle now)) (l := l) hlt h)
      have hyes := Lib.hid (fun h => restC_yes (S := (tickS idle now)) (l := l) hr hlt h)
      have pno := Lib.hid (fun h => pinsC_no (S := (tickS idle now)) (l := l) hlt h)
      have pyes := Lib.hid (fun h => pinsC_yes (S := (tickS idle now)) (l := l) hlt h)
      have hplen := pinsC_len (tickS idle now) (l.take k)
      rw [List.length_take] at hplen
      have hlkH := Lib.hid hlk
      obtain ⟨v, a, y, z, q0, -⟩ := hcu
      generalize l[k] = p at *
      obtain ⟨n, b, c⟩ := p
      simp only at hlk2 hcz hsoC q0
      have o1 : wr.cell? ⟨b, 1, none⟩ = some (.int .i64 c.ask.pin) := (q0.cell 1).trans rfl
      obtain ⟨q, hq⟩ : ∃ q, Hid ((tickS idle now) c = q) := ⟨_, rfl⟩
      rw [hq.out] at hsoC
      have hsoC := Lib.hid hsoC
      have hTH := Lib.hid hT
      have hzH := Lib.hid hz
      have hcapH := Lib.hid hcap
      have hpH := Lib.hid hpins
      clear hlk hrow hzr hT hz hcap hpins q0
      go_wp2_with fail
      refine hsoC.out.mono ?_
      rintro e w3 ⟨rfl, k3⟩
      have kt := kt.kp k3
      have hT3 := hTH.out.kp k3
      have hz3 := OwnR.kp hzH.out k3
      have hp3 := OwnR.kp hpH.out k3
      have hcap3 := (⟨hcapH.out.1.kp k3 id, hcapH.out.2.kp k3 id⟩ : TickCap w3 bn bx bt now)
      cases q
      case false =>
        have e1 := hno.out hq.out
        have e2 := pno.out hq.out
        have hfin : OwnP w3 w.heap.size (.slice pA (pinsC (tickS idle now) (l.take k)).length pc) (pinsC (tickS idle now) (l.take (k + 1))) ∧ TabAt w3 B bt bm idle last (restC (tickS idle now) l (k + 1)) := by rw [e1, e2]; exact ⟨hp3, hT3⟩
        have hfin := Lib.hid hfin
        clear e1 e2 hno hyes pno pyes hTH hzH hcapH hpH hsoC k3 c1 o1 hlk2 hcz hp3 hT3
        go_wp2_with fail
        go_roundw
        case rel => exact ⟨k + 1, by omega, by go_num, hfin.out.1, hfin.out.2, hz3, hcap3, kt⟩
        case measure => simp [intOf]; omega
      case true =>
        have e1 := Lib.hid (hyes.out hq.out)
        have e2 := Lib.hid (pyes.out hq.out)
        have o1 : w3.cell? ⟨b, 1, none⟩ = some (.int .i64 c.ask.pin) := k3.cell0 o1
        have c1 : w3.cell? ⟨bt, 1, none⟩ = some (.map (some bm)) := k3.cell0 c1
        have ho1 : ∀ u ∈ (#[Value.int .i64 c.ask.pin] : Array Value).toList, u.oneCell' = true := by simp [Value.oneCell']
        have hBs : w.heap.size ≤ w3.heap.size := kt.size
        clear hno hyes pno pyes hTH hzH hcapH hpH hsoC k3 hlk2 hcz
        go_wp2_with (at_builtin; refine wp_append1 (W := w3) w.heap.size rfl (.tmp 29) (.tmp 35) 57 3 (.int .i64 0) 1 8 rfl Try.underlying57 infoInt rfl (by decide) _ (pinsC (tickS idle now) (l.take k)).length _ #[.int .i64 c.ask.pin] rfl rfl rfl ho1 hp3 hBs (by omega) (by omega) ?_)
        intro v6 w6 hown6 hg6 _
        have kI := (Kt.refl (B := 0) (T := fun t => t = 3) (M := False) w3).grown hp3 (Nat.zero_le _) rfl hg6
        have kt6 := kt.fresh (Kp.of_grown (S := fun g => w.heap.size ≤ g) hg6 (fun i h => (own_base' hp3 i h).1)) (fun i hi => hi)
        have hT6 := hT3.kt kI (by decide) (by decide) (by decide) (by decide) id
        have hz6 := OwnR.kt hz3 kI (by decide)
        have hcap6 := (⟨hcap3.1.kt kI (by decide), hcap3.2.kt kI (by decide)⟩ : TickCap w6 bn bx bt now)
        have hown7 : OwnP w6 w.heap.size v6 (pinsC (tickS idle now) (l.take (k + 1))) := by
          rw [e2.out]
          unfold OwnP OwnR
          simpa using hown6
        have c1 : w6.cell? ⟨bt, 1, none⟩ = some (.map (some bm)) := (hT6.blk.cell 1).trans rfl
        obtain ⟨w9, hrun, hM9, k9, hs9⟩ := hT6.map.del (P := Try.prog) (ty := 0) keyU32 Try.underlying94 n
        have hT9 := hT6.del n hM9 k9
        rw [← e1.out] at hT9
        have hz9 := own_kp hz6 k9 (own_ne_map hz6 hT6.map)
        have hown9 := own_kp hown7 k9 (own_ne_map hown7 hT6.map)
        have hcap9 := (⟨hcap6.1.kp k9 (fun e => hT6.map.ne_blk hcap6.1 e.symm), hcap6.2.kp k9 (fun e => hT6.map.ne_blk hcap6.2 e.symm)⟩ : TickCap w9 bn bx bt now)
        have kt9 := kt6.map hT6.map trivial hT6.bm k9
        clear hown6 hg6 hown7 kt6 hT6 hz6 hcap6 kI k9 hs9 hM9 kt hT3 hz3 hp3 hcap3 o1 ho1
        go_wp2_with fail
        go_roundw
        case rel => exact ⟨k + 1, by omega, by go_num, hown9, hT9, hz9, hcap9, kt9⟩
        case measure => simp [intOf]; omega
    · obtain rfl : k = l.length := by omega
      rw [List.take_length] at hpins ⊢
      rw [restC_end] at hT
      go_wp2_with fail
      go_ret
      exact ⟨_, rfl, hpins, hT, kt⟩

def DropleaveRel (w : World) (B bt bm bo : Nat) (idle last owner : Int) (l : CurL) (vz : Value) (v i : Value) (wr : World) : Prop :=
  ∃ k : Nat, k ≤ l.length ∧ i = .int .i64 k ∧ OwnP wr w.heap.size v (pinsC (leaveS owner) (l.take k)) ∧ TabAt wr B bt bm idle last (restC (leaveS owner) l k) ∧ OwnK wr 0 vz (l.map (·.1)) ∧ LeaveCap wr bo owner ∧ Kt B TC True w wr
set_option maxRecDepth 8000 in
set_option maxHeartbeats 4000000 in
theorem drop_leave {w : World} {B bt bm bo : Nat} {idle last owner : Int} {l : CurL} (h : TabAt w B bt bm idle last l) (hB : B ≤ w.heap.size) (hr : RiseC l) (hlen : l.length ≤ 12) (hcap : LeaveCap w bo owner)  :
    Calls Try.prog 57 #[.pointer (some ⟨bt, 0, none⟩), .func (.func 59) #[] #[.pointer (some ⟨bo, 0, none⟩)]] w (DropPost (leaveS owner) w B bt bm idle last l) := by
  have c1 : w.cell? ⟨bt, 1, none⟩ = some (.map (some bm)) := (h.blk.cell 1).trans rfl
  have hK := Lib.hid (prog_keys bm w)
  have kA := (Kp.refl (fun _ => False) w).alloc (.cells #[.map (some bm)] 94)
  have hTA := h.kp kA
  have hcapA : LeaveCap (w.alloc (.cells #[.map (some bm)] 94)) bo owner := Blk.kp hcap kA id
  have hSo := Lib.hid (prog_sorted w.heap.size bm (ptrs l) (by simpa [ptrs] using hlen) (w.alloc (.cells #[.map (some bm)] 94)) (by simp) (((Blk.new w _ _).cell 0).trans rfl) hTA.map (l.map (·.1)) (by rw [ptrs_keys]) (sorted_keys hr))
  have hgw : (w.alloc (.cells #[.map (some bm)] 94)).heap.size = w.heap.size + 1 := by simp
  have hTA := Lib.hid hTA
  clear h hcap
  go_enter Try.func57, Try.ntmps57
  go_wp2_with fail
  refine hK.out.mono ?_
  rintro e w1 ⟨rfl, rfl⟩
  go_wp2_with fail
  refine hSo.out.mono ?_
  rintro e w2 ⟨vz, rfl, hz, k2⟩
  have hT := hTA.out.kp k2
  have hz := OwnR.base hz (Nat.zero_le _)
  have kt : Kt B TC True w w2 := ((Kt.of_kp kA).kp k2)
  have hcap := (Blk.kp hcapA k2 id : LeaveCap w2 bo owner)
  obtain ⟨zA, zc, rfl⟩ := OwnR.form hz
  rw [List.length_map] at hz ⊢
  clear hK hSo hTA hcapA k2 c1 hgw
  go_wp2_with fail
  go_loopw [5, 16] (fun v i wr => DropleaveRel w B bt bm bo idle last owner l (.slice zA l.length zc) v i wr) (fun _ i _ => l.length - (intOf i).toNat)
  case atStart => exact ⟨0, by omega, rfl, (OwnR.nil _ _ _ _ : OwnP w2 w.heap.size (.slice none 0 0) []), by rw [restC_zero]; exact hT, hz, hcap, kt⟩
  case round =>
    clear hT hz hcap kt kA
    obtain ⟨k, hk, rfl, hpins, hT, hz, hcap, kt⟩ := hrel
    obtain ⟨pA, pc, rfl⟩ := OwnR.form hpins
    by_cases hlt : k < l.length
    · have hzr := OwnR.row hz
      obtain ⟨zA', zc', e, -, -, hrow⟩ := hzr.one
      simp only [Value.slice.injEq] at e
      obtain ⟨rfl, -, rfl⟩ := e
      obtain ⟨zg, zo, rfl, hcz⟩ := hrow k (by simpa using hlt)
      rw [List.getElem_map] at hcz
      have hlk := restC_look (S := (leaveS owner)) hr hlt
      have hlk2 := tab_look hT l[k].1
      rw [hlk] at hlk2
      simp only [Option.map_some, Option.getD_some] at hlk2
      have c1 : wr.cell? ⟨bt, 1, none⟩ = some (.map (some bm)) := (hT.blk.cell 1).trans rfl
      have hcu := (hT.cur _ (lookC_mem hlk)).2
      have hsoC := leave_so hcu hcap
      have hno := Lib.hid (fun h => restC_no (S := (leaveS owner)) (l := l) hlt h)
      have hyes := Lib.hid (fun h => restC_yes (S := (leaveS owner)) (l := l) hr hlt h)
      have pno := Lib.hid (fun h => pinsC_no (S := (leaveS owner)) (l := l) hlt h)
      have pyes := Lib.hid (fun h => pinsC_yes (S := (leaveS owner)) (l := l) hlt h)
      have hplen := pinsC_len (leaveS owner) (l.take k)
      rw [List.length_take] at hplen
      have hlkH := Lib.hid hlk
      obtain ⟨v, a, y, z, q0, -⟩ := hcu
      generalize l[k] = p at *
      obtain ⟨n, b, c⟩ := p
      simp only at hlk2 hcz hsoC q0
      have o1 : wr.cell? ⟨b, 1, none⟩ = some (.int .i64 c.ask.pin) := (q0.cell 1).trans rfl
      obtain ⟨q, hq⟩ : ∃ q, Hid ((leaveS owner) c = q) := ⟨_, rfl⟩
      rw [hq.out] at hsoC
      have hsoC := Lib.hid hsoC
      have hTH := Lib.hid hT
      have hzH := Lib.hid hz
      have hcapH := Lib.hid hcap
      have hpH := Lib.hid hpins
      clear hlk hrow hzr hT hz hcap hpins q0
      go_wp2_with fail
      refine hsoC.out.mono ?_
      rintro e w3 ⟨rfl, k3⟩
      have kt := kt.kp k3
      have hT3 := hTH.out.kp k3
      have hz3 := OwnR.kp hzH.out k3
      have hp3 := OwnR.kp hpH.out k3
      have hcap3 := (Blk.kp hcapH.out k3 id : LeaveCap w3 bo owner)
      cases q
      case false =>
        have e1 := hno.out hq.out
        have e2 := pno.out hq.out
        have hfin : OwnP w3 w.heap.size (.slice pA (pinsC (leaveS owner) (l.take k)).length pc) (pinsC (leaveS owner) (l.take (k + 1))) ∧ TabAt w3 B bt bm idle last (restC (leaveS owner) l (k + 1)) := by rw [e1, e2]; exact ⟨hp3, hT3⟩
        have hfin := Lib.hid hfin
        clear e1 e2 hno hyes pno pyes hTH hzH hcapH hpH hsoC k3 c1 o1 hlk2 hcz hp3 hT3
        go_wp2_with fail
        go_roundw
        case rel => exact ⟨k + 1, by omega, by go_num, hfin.out.1, hfin.out.2, hz3, hcap3, kt⟩
        case measure => simp [intOf]; omega
      case true =>
        have e1 := Lib.hid (hyes.out hq.out)
        have e2 := Lib.hid (pyes.out hq.out)
        have o1 : w3.cell? ⟨b, 1, none⟩ = some (.int .i64 c.ask.pin) := k3.cell0 o1
        have c1 : w3.cell? ⟨bt, 1, none⟩ = some (.map (some bm)) := k3.cell0 c1
        have ho1 : ∀ u ∈ (#[Value.int .i64 c.ask.pin] : Array Value).toList, u.oneCell' = true := by simp [Value.oneCell']
        have hBs : w.heap.size ≤ w3.heap.size := kt.size
        clear hno hyes pno pyes hTH hzH hcapH hpH hsoC k3 hlk2 hcz
        go_wp2_with (at_builtin; refine wp_append1 (W := w3) w.heap.size rfl (.tmp 29) (.tmp 35) 57 3 (.int .i64 0) 1 8 rfl Try.underlying57 infoInt rfl (by decide) _ (pinsC (leaveS owner) (l.take k)).length _ #[.int .i64 c.ask.pin] rfl rfl rfl ho1 hp3 hBs (by omega) (by omega) ?_)
        intro v6 w6 hown6 hg6 _
        have kI := (Kt.refl (B := 0) (T := fun t => t = 3) (M := False) w3).grown hp3 (Nat.zero_le _) rfl hg6
        have kt6 := kt.fresh (Kp.of_grown (S := fun g => w.heap.size ≤ g) hg6 (fun i h => (own_base' hp3 i h).1)) (fun i hi => hi)
        have hT6 := hT3.kt kI (by decide) (by decide) (by decide) (by decide) id
        have hz6 := OwnR.kt hz3 kI (by decide)
        have hcap6 := (Blk.kt hcap3 kI (by decide) : LeaveCap w6 bo owner)
        have hown7 : OwnP w6 w.heap.size v6 (pinsC (leaveS owner) (l.take (k + 1))) := by
          rw [e2.out]
          unfold OwnP OwnR
          simpa using hown6
        have c1 : w6.cell? ⟨bt, 1, none⟩ = some (.map (some bm)) := (hT6.blk.cell 1).trans rfl
        obtain ⟨w9, hrun, hM9, k9, hs9⟩ := hT6.map.del (P := Try.prog) (ty := 0) keyU32 Try.underlying94 n
        have hT9 := hT6.del n hM9 k9
        rw [← e1.out] at hT9
        have hz9 := own_kp hz6 k9 (own_ne_map hz6 hT6.map)
        have hown9 := own_kp hown7 k9 (own_ne_map hown7 hT6.map)
        have hcap9 := (Blk.kp hcap6 k9 (fun e => hT6.map.ne_blk hcap6 e.symm) : LeaveCap w9 bo owner)
        have kt9 := kt6.map hT6.map trivial hT6.bm k9
        clear hown6 hg6 hown7 kt6 hT6 hz6 hcap6 kI k9 hs9 hM9 kt hT3 hz3 hp3 hcap3 o1 ho1
        go_wp2_with fail
        go_roundw
        case rel => exact ⟨k + 1, by omega, by go_num, hown9, hT9, hz9, hcap9, kt9⟩
        case measure => simp [intOf]; omega
    · obtain rfl : k = l.length := by omega
      rw [List.take_length] at hpins ⊢
      rw [restC_end] at hT
      go_wp2_with fail
      go_ret
      exact ⟨_, rfl, hpins, hT, kt⟩

theorem prog_tick {w : World} {B bt bm : Nat} {idle last : Int} {l : CurL} (now : Int) (h : TabAt w B bt bm idle last l) (hB : B ≤ w.heap.size) (hr : RiseC l) (hlen : l.length ≤ 12) (hn : 0 ≤ now ∧ now < 4294967296) (hu : ∀ p ∈ l, 0 ≤ p.2.2.used) :
    Calls Try.prog 31 #[.pointer (some ⟨bt, 0, none⟩), .int .u32 now] w fun e w' => ∃ v, e = .returned v ∧ OwnP w' w.heap.size v (pinsC (tickS idle now) l) ∧ TabAt w' B bt bm idle last (l.filter fun p => !tickS idle now p.2.2) ∧ Kt B TC True w w' := by
  have k1 := (Kp.refl (fun _ => False) w).alloc (.cells #[.pointer (some ⟨bt, 0, none⟩)] 39)
  have k2 := k1.alloc (.cells #[.int .u32 now] 41)
  have hX := (Blk.new w #[.pointer (some ⟨bt, 0, none⟩)] 39).alloc (.cells #[.int .u32 now] 41)
  have hN := Blk.new (w.alloc (.cells #[.pointer (some ⟨bt, 0, none⟩)] 39)) #[.int .u32 now] 41
  rw [show (w.alloc (.cells #[.pointer (some ⟨bt, 0, none⟩)] 39)).heap.size = w.heap.size + 1 by simp] at hN
  have hD := Lib.hid (drop_tick (h.kp k2) (Nat.le_trans hB k2.size) hr hlen (⟨hN, hX⟩ : TickCap _ (w.heap.size + 1) w.heap.size bt now) hn hu)
  have kt := Lib.hid (Kt.of_kp (B := B) (T := TC) (M := True) k2)
  clear h hr hn hu hN hX k1 k2
  go_enter Try.func31, Try.ntmps31
  go_wp2_with fail
  refine hD.out.mono ?_
  rintro e w' ⟨v, rfl, h1, h2, h3⟩
  have h1 := OwnR.base (base' := w.heap.size) h1 (by simp; omega)
  clear hD
  go_wp2_with fail
  go_ret
  exact ⟨v, rfl, h1, h2, kt.out.trans h3⟩

theorem prog_leave {w : World} {B bt bm : Nat} {idle last : Int} {l : CurL} (owner : Int) (h : TabAt w B bt bm idle last l) (hB : B ≤ w.heap.size) (hr : RiseC l) (hlen : l.length ≤ 12) :
    Calls Try.prog 35 #[.pointer (some ⟨bt, 0, none⟩), .int .u64 owner] w fun e w' => ∃ v, e = .returned v ∧ OwnP w' w.heap.size v (pinsC (leaveS owner) l) ∧ TabAt w' B bt bm idle last (l.filter fun p => !leaveS owner p.2.2) ∧ Kt B TC True w w' := by
  have k1 := (Kp.refl (fun _ => False) w).alloc (.cells #[.int .u64 owner] 44)
  have hX := Blk.new w #[.int .u64 owner] 44
  have hD := Lib.hid (drop_leave (h.kp k1) (Nat.le_trans hB k1.size) hr hlen (hX : LeaveCap _ w.heap.size owner))
  have kt := Lib.hid (Kt.of_kp (B := B) (T := TC) (M := True) k1)
  clear h hr hX k1
  go_enter Try.func35, Try.ntmps35
  go_wp2_with fail
  refine hD.out.mono ?_
  rintro e w' ⟨v, rfl, h1, h2, h3⟩
  have h1 := OwnR.base (base' := w.heap.size) h1 (by simp)
  clear hD
  go_wp2_with fail
  go_ret
  exact ⟨v, rfl, h1, h2, kt.out.trans h3⟩
end Go.Proofs.Ytcamhpjgpjihhaa


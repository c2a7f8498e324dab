/- lodestarlaw03.TagsMore: its three regions of appends, in a walk. -/
import Derived.Test.YtahopbjoaoiknaaMoreS
namespace Go.Proofs.Ytahopbjoaoiknaa
set_option linter.unusedVariables false
set_option linter.unusedSimpArgs false
open Go.RowKit

theorem setO_get {h : Tr AObj} {i j : Nat} {o : Option AObj} {x : AObj} (hg : (setO h i o).get j = some x) : (i = j ∧ o = some x) ∨ h.get j = some x := by
  cases o with
  | none => exact .inr hg
  | some y =>
    simp only [setO, Tr.get_set] at hg
    split at hg
    · rename_i e; cases hg; exact .inl ⟨e, rfl⟩
    · exact .inr hg
def frameM (XL XA Y XN : Value) (t : ByteArray) (bf : Nat) : List Value :=
  [.agg #[XA, Y, XN], XL, .string t, .pointer (some ⟨bf, 0, none⟩), undef, undef, .bool false, undef, undef, undef, .bool true, .bool false, XL, .bool false, .bool false, .pointer (some ⟨bf, 0, none⟩), XA, .bool false, .bool false, .bool false,
   .pointer (some ⟨bf, 1, none⟩), Y, .bool false, .bool false, .bool false, .pointer (some ⟨bf, 2, none⟩), XN, .bool false, .bool false] ++ List.replicate 48 undef
def renM' (bf : Nat) (A aA nA : Option Addr) (y : Value) : Ren := fun id =>
  if id = 1 then some ⟨bf, 0, 0, undef⟩ else if id = 3 then some (locO aA) else if id = 5 then some (locO nA) else if id = 7 then some (locO A) else if id = 9 then some ⟨0, 0, 0, y⟩ else none

theorem argsM_vr {R : Ren} {XL XA Y XN L A y N : Value} {t : ByteArray} {bf : Nat} (h1 : R 1 = some ⟨bf, 0, 0, undef⟩) (hl : VR R XL L) (ha : VR R XA A) (hy : VR R Y y) (hn : VR R XN N) : VRs R (argsM XL XA Y XN t) (frameM L A y N t bf) := by
  have hu := VR_undef R
  have hb : ∀ b, VR R (.bool b) (.bool b) := fun _ => rfl
  have hp : ∀ k, VR R (.pointer (some ⟨1, k, none⟩)) (.pointer (some ⟨bf, k, none⟩)) := fun k => ⟨_, h1, by simp⟩
  unfold argsM frameM
  refine VRs.append ?_ ((VRs.flat (by decide)).2 rfl)
  refine ⟨_, _, ⟨_, ⟨_, ⟨_, _, ha, ⟨_, _, hy, ⟨_, _, hn, rfl, rfl⟩, rfl⟩, rfl⟩, rfl⟩, rfl⟩, ?_, rfl⟩
  refine ⟨_, _, hl, ?_, rfl⟩
  refine ⟨_, _, (show VR R (.string t) _ from rfl), ?_, rfl⟩
  iterate 26 refine ⟨_, _, (by first | exact hb _ | exact hu | exact hp _ | exact hl | exact ha | exact hy | exact hn), ?_, rfl⟩
  exact rfl

theorem more_regs {l al an no : List ByteArray} {A aA yA nA : Option Addr} {cap ac yc nc bf : Nat} {t : ByteArray} {w : World} (hl : Strs w (.slice A l.length cap) l) (ha : Strs w (.slice aA al.length ac) al) (hy : Strs w (.slice yA an.length yc) an) (hn : Strs w (.slice nA no.length nc) no)
    (gl : l.length ≤ 300) (ga : al.length ≤ 300) (gn : no.length ≤ 300) (hB : Blk w bf #[.slice aA al.length ac, .slice yA an.length yc, .slice nA no.length nc] 24) {Q : Exit → Act → World → Prop} {c : Code}
    (hQ : ∀ (u : Nat → Value) (w' : World) (b8 b9 : Nat) (vA vN : Value), u 1 = .slice A l.length cap →
      u 8 = .pointer (some ⟨b8, 0, none⟩) → u 9 = .pointer (some ⟨b9, 0, none⟩) → Strs w' (u 7) (l ++ [t]) → Blk w' b8 #[.slice aA al.length ac, .slice yA an.length yc, .slice none 0 0] 24 →
      Blk w' b9 #[vA, .slice yA an.length yc, vN] 24 → Strs w' vA (al ++ [t]) → Strs w' vN (no ++ [t]) → Kp (fun _ => False) w w' → c.wp Try.prog Q { tmps := ⟨(List.range 77).map u⟩, defers := [] } w') :
    (regsCode regs57 c).wp Try.prog Q { tmps := ⟨frameM (.slice A l.length cap) (.slice aA al.length ac) (.slice yA an.length yc) (.slice nA no.length nc) t bf⟩, defers := [] } w := by
  have hR : ∀ id l', renM' bf A aA nA (.slice yA an.length yc) id = some l' → id % 2 = 1 := by
    intro id l' h
    unfold renM' at h
    by_cases e1 : id = 1
    · rw [e1]
    by_cases e3 : id = 3
    · rw [e3]
    by_cases e5 : id = 5
    · rw [e5]
    by_cases e7 : id = 7
    · rw [e7]
    by_cases e9 : id = 9
    · rw [e9]
    rw [if_neg e1, if_neg e3, if_neg e5, if_neg e7, if_neg e9] at h
    cases h
  have r1 : renM' bf A aA nA (.slice yA an.length yc) 1 = some ⟨bf, 0, 0, undef⟩ := rfl
  have r3 : renM' bf A aA nA (.slice yA an.length yc) 3 = some (locO aA) := rfl
  have r5 : renM' bf A aA nA (.slice yA an.length yc) 5 = some (locO nA) := rfl
  have r7 : renM' bf A aA nA (.slice yA an.length yc) 7 = some (locO A) := rfl
  have r9 : renM' bf A aA nA (.slice yA an.length yc) 9 = some ⟨0, 0, 0, .slice yA an.length yc⟩ := rfl
  generalize renM' bf A aA nA (.slice yA an.length yc) = R at *
  obtain ⟨n1, oL, kl, vl, sl, pl⟩ := kd_of t hl gl r7
  obtain ⟨n2, oA, ka, va, sa, pa⟩ := kd_of t ha ga r3
  obtain ⟨n3, oN, kn, vn, sn, pn⟩ := kd_of t hn gn r5
  have vy : VR R (.chan (some 9)) (.slice yA an.length yc) := ⟨_, r9, rfl, rfl⟩
  obtain ⟨tm, s, hrun, hm⟩ := obsM_inv (run_all t kl ka kn)
  generalize hXL : Value.slice (A.map fun a => ⟨7, 0, a.spot⟩) n1 cap = XL at *
  generalize hXA : Value.slice (aA.map fun a => ⟨3, 0, a.spot⟩) n2 ac = XA at *
  generalize hXN : Value.slice (nA.map fun a => ⟨5, 0, a.spot⟩) n3 nc = XN at *
  have hobj : ∀ id o, (hM XA (.chan (some 9)) XN oL oA oN).get id = some o → o.own = false ∧ SatObj Try.prog R w id o := by
    intro id o hg
    unfold hM at hg
    rcases setO_get hg with ⟨rfl, e⟩ | hg2
    · exact sl _ e
    rcases setO_get hg2 with ⟨rfl, e⟩ | hg3
    · exact sn _ e
    rcases setO_get hg3 with ⟨rfl, e⟩ | hg4
    · exact sa _ e
    clear hg hg2 hg3
    rw [Tr.get_set] at hg4
    split at hg4
    · rename_i e
      subst e
      cases hg4
      refine ⟨rfl, _, r1, rfl, hB.lt, fun j x hj => ?_⟩
      simp only [Nat.zero_add]
      rw [hB.cell]
      rcases j with _ | _ | _ | j
      · cases hj; exact ⟨_, va, rfl⟩
      · cases hj; exact ⟨_, vy, rfl⟩
      · cases hj; exact ⟨_, vn, rfl⟩
      · simp at hj
    · rw [Tr.get_nil] at hg4; cases hg4
  have hS : Sat Try.prog ⟨w, w.heap.size⟩ (fun _ => True) R (hM XA (.chan (some 9)) XN oL oA oN) w :=
    ⟨fun id o _ hg => (hobj id o hg).2, fun id l' _ h => .inr (hR id l' h), fun id id' o o' l1 l2 _ _ _ hg hg' _ _ hw => (by
      rcases hw with hw | hw
      · rw [(hobj id o hg).1] at hw; cases hw
      · rw [(hobj id' o' hg').1] at hw; cases hw), Below.refl _ _, fun id o l1 _ hg hw => (by rw [(hobj id o hg).1] at hw; cases hw), Nat.le_refl _⟩
  have hps : ∀ p ∈ psO t oL ++ (psO t oA ++ psO t oN), p := by
    intro p hp
    simp only [List.mem_append] at hp
    rcases hp with hp | hp | hp
    · exact pl p hp
    · exact pa p hp
    · exact pn p hp
  refine (regs_ok (G := ⟨w, w.heap.size⟩) (by kernel_rfl) (X := []) (fun p hp => by cases hp) (call := fun _ _ _ => none) (fun f args s v s' h => by cases h) (nt := 77) hrun hps).2 hm.ob hS (ActR.ofL (argsM_vr r1 vl va vy vn) (by simp [argsM])) fun R' a' w' ha' hS' hst => ?_
  have hle := hst.mono
  have hk : Kp (fun _ => False) w w' := hst.kp.mono fun k _ ⟨id, l1, o, _, _, _, hg, ho⟩ => by rw [(hobj id o hg).1] at ho; cases ho
  have q1 := ha'.val 1
  rw [hm.t1] at q1
  have q1 : VR R' XL (a'.tmps.getD 1 undef) := q1
  rw [← hXL] at q1 vl
  obtain ⟨i7, t7, g7⟩ := hm.r7
  obtain ⟨i8, t8, g8⟩ := hm.r8
  obtain ⟨i9, j9, k9, t9, g9, gA, gN⟩ := hm.r9
  have q7 := ha'.val 7
  rw [t7] at q7
  have q8 := ha'.val 8
  rw [t8] at q8
  have q9 := ha'.val 9
  rw [t9] at q9
  obtain ⟨l8, p8, e8⟩ : VR R' (.pointer (some ⟨i8, 0, none⟩)) (a'.tmps.getD 8 undef) := q8
  obtain ⟨l9, p9, e9⟩ : VR R' (.pointer (some ⟨i9, 0, none⟩)) (a'.tmps.getD 9 undef) := q9
  obtain ⟨m8, cur8, f8, o8, _, c8, b8⟩ := hS'.obj i8 _ trivial g8
  rw [p8] at f8
  cases f8
  obtain ⟨m9, cur9, f9, o9, _, c9, b9⟩ := hS'.obj i9 _ trivial g9
  rw [p9] at f9
  cases f9
  rw [o8] at e8
  rw [o9] at e9
  obtain ⟨x1, _, u1, ⟨x2, _, u2, ⟨x3, _, u3, rfl, rfl⟩, rfl⟩, rfl⟩ := c8
  obtain ⟨z1, _, v1, ⟨z2, _, v2, ⟨z3, _, v3, rfl, rfl⟩, rfl⟩, rfl⟩ := c9
  rw [← hXA] at u1 va
  obtain rfl := va.same_slice hle u1
  obtain rfl := vy.same_chan hle u2
  obtain rfl : x3 = .slice none 0 0 := u3
  obtain rfl := vy.same_chan hle v2
  rw [act_list ha'.size ha'.defers]
  refine hQ (fun i => a'.tmps.getD i undef) w' l8.blk l9.blk z1 z3 (vl.same_slice hle q1) (by simpa using e8) (by simpa using e9) (strs_loose (hS'.obj i7 _ trivial g7) (by simp) (by simp) q7) b8 b9 (strs_loose (hS'.obj j9 _ trivial gA) (by simp) (by simp) v1) (strs_loose (hS'.obj k9 _ trivial gN) (by simp) (by simp) v3) hk
end Go.Proofs.Ytahopbjoaoiknaa

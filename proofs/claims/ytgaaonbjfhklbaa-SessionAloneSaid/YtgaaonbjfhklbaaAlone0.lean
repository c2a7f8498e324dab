/- SessionAlone: what is handed to the evaluator. -/
import Derived.Test.YtgaaonbjfhklbaaAlive
import Derived.Test.YtgaaonbjfhklbaaEv15
import Derived.Test.YtgaaonbjfhklbaaGreatMsg
namespace Go.Proofs.Ytgaaonbjfhklbaa
set_option linter.unusedVariables false
set_option linter.unusedSimpArgs false
open Go.RowKit

/-- What leaves all that was there as it was. -/
theorem below_step {P : Program} {G : Gd} {F : Nat → Prop} {R : Ren} {h : Tr AObj} {w w' : World} (hS : Sat P G F R h w) (hb : Below w.heap.size w w') (wr : List Nat) : Sat P G F R h w' ∧ Step R w h R w' wr := by
  refine ⟨⟨fun id o hf hg => (hS.obj id o hf hg).keep (.refl R) hb.size fun l _ hlt => hb.block _ hlt, hS.dom, hS.inj, hS.bas.trans (hb.mono hS.siz), hS.low, Nat.le_trans hS.siz hb.size⟩, .refl R, fun id l h1 h2 => (by rw [h1] at h2; cases h2), Kp.of_below _ hb⟩

theorem VRs_cons {R : Ren} {x v : Value} {xs vs : List Value} (h : VR R x v) (k : VRs R xs vs) : VRs R (x :: xs) (v :: vs) := ⟨v, vs, h, k, rfl⟩
mutual
theorem VR.det {R : Ren} : ∀ {x u v : Value}, VR R x u → VR R x v → u = v
  | .pointer (some a), u, v, ⟨l, h1, h2⟩, ⟨l', k1, k2⟩ => by rw [h1] at k1; cases k1; rw [h2, k2]
  | .pointer none, u, v, hh, kk => hh.trans kk.symm
  | .slice (some a) n c, u, v, ⟨l, h1, h2⟩, ⟨l', k1, k2⟩ => by rw [h1] at k1; cases k1; rw [h2, k2]
  | .slice none n c, u, v, hh, kk => hh.trans kk.symm
  | .map (some r), u, v, ⟨l, h1, h2⟩, ⟨l', k1, k2⟩ => by rw [h1] at k1; cases k1; rw [h2, k2]
  | .map none, u, v, hh, kk => hh.trans kk.symm
  | .chan (some r), u, v, ⟨l, h1, h2, _⟩, ⟨l', k1, k2, _⟩ => by rw [h1] at k1; cases k1; rw [h2, k2]
  | .chan none, u, v, hh, kk => hh.trans kk.symm
  | .func fn f c, u, v, ⟨f', c', h1, h2, h3⟩, ⟨f2, c2, k1, k2, k3⟩ => by rw [h3, k3, VRa.det h1 k1, VRa.det h2 k2]
  | .iface t x, u, v, ⟨x', h1, h2⟩, ⟨x2, k1, k2⟩ => by rw [h2, k2, VR.det h1 k1]
  | .agg a, u, v, ⟨a', h1, h2⟩, ⟨a2, k1, k2⟩ => by rw [h2, k2, VRa.det h1 k1]
  | .tuple a, u, v, ⟨a', h1, h2⟩, ⟨a2, k1, k2⟩ => by rw [h2, k2, VRa.det h1 k1]
  | .bool _, u, v, hh, kk => hh.trans kk.symm
  | .int _ _, u, v, hh, kk => hh.trans kk.symm
  | .float _ _, u, v, hh, kk => hh.trans kk.symm
  | .complex _ _ _, u, v, hh, kk => hh.trans kk.symm
  | .string _, u, v, hh, kk => hh.trans kk.symm
  | .nilFunc, u, v, hh, kk => hh.trans kk.symm
  | .nilIface, u, v, hh, kk => hh.trans kk.symm
theorem VRa.det {R : Ren} : ∀ {x u v : Array Value}, VRa R x u → VRa R x v → u = v
  | ⟨l⟩, u, v, ⟨l', h1, h2⟩, ⟨l2, k1, k2⟩ => by rw [h2, k2, VRs.det h1 k1]
theorem VRs.det {R : Ren} : ∀ {x u v : List Value}, VRs R x u → VRs R x v → u = v
  | [], u, v, hh, kk => by simp only [VRs] at hh kk; rw [hh, kk]
  | x :: xs, u, v, ⟨y, ys, h1, h2, h3⟩, ⟨y2, ys2, k1, k2, k3⟩ => by rw [h3, k3, VR.det h1 k1, VRs.det h2 k2]
end

/-- The cells of a message, the lists by their names. -/
def msgA (x : MsgC) : List Value :=
  [.int .u8 x.kind, .int .u32 x.req, .int .u32 x.caps, .int .u64 x.token, .int .u8 x.code, .int .u32 x.n, .string x.name, .string x.cname, .int .u8 x.dim, .int .u8 x.metric, .bool x.graph, .int .u8 x.links, .int .u16 x.cwidth,
    .chan (some 1), .int .u32 x.id, .chan (some 3), .int .u16 x.k, .int .u16 x.width, .chan (some 5), .chan (some 7), .chan (some 9), .int .u32 x.num, .int .u32 x.page, .chan (some 11), .int .u64 x.version, .chan (some 13), .chan (some 15), .chan (some 17)]
def nth (l : List Value) (k : Nat) : Value := l.getD k undef
/-- The names of its lists. -/
def msgN (es : List Value) : Ren := fun id =>
  match id with
  | 1 => some ⟨0, 0, 0, nth es 13⟩
  | 3 => some ⟨0, 0, 0, nth es 15⟩
  | 5 => some ⟨0, 0, 0, nth es 18⟩
  | 7 => some ⟨0, 0, 0, nth es 19⟩
  | 9 => some ⟨0, 0, 0, nth es 20⟩
  | 11 => some ⟨0, 0, 0, nth es 23⟩
  | 13 => some ⟨0, 0, 0, nth es 25⟩
  | 15 => some ⟨0, 0, 0, nth es 26⟩
  | 17 => some ⟨0, 0, 0, nth es 27⟩
  | _ => none
theorem msgN_odd (es : List Value) : ∀ id l, msgN es id = some l → id % 2 = 1 := by
  intro id l h
  unfold msgN at h
  split at h <;> first | rfl | cases h
theorem msgA_rel {w : World} {es : List Value} {x : MsgC} (h : MsgR w es x) : VRs (msgN es) (msgA x) es := by
  obtain ⟨ch, vc, fa, fy, fn, by_, ns, is, hs, rfl, h0, h1, h2, h3, h4, h5, h6, h7, h8⟩ := h
  obtain ⟨chA, chc, rfl, _⟩ := RowN.sl h0
  obtain ⟨vcA, vcc, rfl, _⟩ := RowN.sl h1
  obtain ⟨faA, fac, rfl, _⟩ := RowN.sl h2
  obtain ⟨fyA, fyc, rfl, _⟩ := RowN.sl h3
  obtain ⟨fnA, fnc, rfl, _⟩ := RowN.sl h4
  obtain ⟨byA, byc, rfl, _⟩ := RowN.sl h5
  obtain ⟨nsA, nsc, rfl, _⟩ := RowN.sl h6
  obtain ⟨isA, isc, rfl, _⟩ := RowN.sl h7
  obtain ⟨hsA, hsc, rfl, _⟩ := RowN.sl h8
  unfold msgA
  exact VRs_cons rfl (VRs_cons rfl (VRs_cons rfl (VRs_cons rfl (VRs_cons rfl (VRs_cons rfl (VRs_cons rfl (VRs_cons rfl (VRs_cons rfl (VRs_cons rfl (VRs_cons rfl (VRs_cons rfl (VRs_cons rfl (VRs_cons ⟨_, rfl, rfl, rfl⟩ (VRs_cons rfl (VRs_cons ⟨_, rfl, rfl, rfl⟩ (VRs_cons rfl (VRs_cons rfl (VRs_cons ⟨_, rfl, rfl, rfl⟩ (VRs_cons ⟨_, rfl, rfl, rfl⟩ (VRs_cons ⟨_, rfl, rfl, rfl⟩ (VRs_cons rfl (VRs_cons rfl (VRs_cons ⟨_, rfl, rfl, rfl⟩ (VRs_cons rfl (VRs_cons ⟨_, rfl, rfl, rfl⟩ (VRs_cons ⟨_, rfl, rfl, rfl⟩ (VRs_cons ⟨_, rfl, rfl, rfl⟩ (rfl))))))))))))))))))))))))))))

/-- The calls that are known beforehand. -/
def aloneO (es : List Value) (x : MsgC) : CallF := fun f args s =>
  match Nat.beq f 7 with
  | true => some (.bool true, { s with ob := (fun _ => args = []) :: s.ob })
  | false => match Nat.beq f 8 with
    | true => match s.mk' .isB with
      | none => none
      | some (id, s1) => some (.chan (some id), { s1 with ob := (fun R => args = [.agg ⟨msgA x⟩] ∧ (msgN es).le R) :: s1.ob })
    | false => none

theorem ARun.obs {s s1 : St} (h : ARun s s1) (ob : List (Ren → Prop)) (ho : ∀ q ∈ s1.ob, q ∈ ob) : ARun s { s1 with ob := ob } := ⟨h.frame, h.keep, h.alive, h.dom, h.even, h.wr, h.rd, fun q hq => ho q (h.ob q hq)⟩

theorem aloneO_ok {w : World} {es : List Value} {x : MsgC} (hx : MsgR w es x) : ∀ f args s v s', aloneO es x f args s = some (v, s') → CallS Try.prog ⟨w, w.heap.size⟩ f args s v s' := by
  intro f args s v s' h
  unfold aloneO at h
  split at h
  · rename_i hf
    have hf := Nat.eq_of_beq_eq_true hf
    subst hf
    simp only [Option.some.injEq, Prod.mk.injEq] at h
    obtain ⟨rfl, rfl⟩ := h
    refine ⟨(ARun.refl s).obs _ (fun q hq => List.mem_cons_of_mem _ hq), fun F R W avs hrd hwr hS hob ha => ?_⟩
    have h0 : args = [] := hob R (.refl R) _ List.mem_cons_self
    subst h0
    simp only [VRs] at ha
    subst ha
    refine (alive_calls W).mono ?_
    rintro e w' ⟨rfl, hb⟩
    obtain ⟨g1, g2⟩ := below_step hS hb s.wr
    exact ⟨R, _, rfl, rfl, g1, g2⟩
  · split at h
    · rename_i hf
      have hf := Nat.eq_of_beq_eq_true hf
      subst hf
      split at h
      · cases h
      rename_i id s1 hm
      simp only [Option.some.injEq, Prod.mk.injEq] at h
      obtain ⟨rfl, rfl⟩ := h
      refine ⟨(ARun.mk' hm).obs _ (fun q hq => List.mem_cons_of_mem _ hq), fun F R W avs hrd hwr hS hob ha => ?_⟩
      obtain ⟨h0, hle⟩ := (hob R (.refl R) _ List.mem_cons_self : args = [.agg ⟨msgA x⟩] ∧ (msgN es).le R)
      subst h0
      obtain ⟨y, ys, ⟨a', ⟨l', k1, rfl⟩, rfl⟩, k2, rfl⟩ := ha
      simp only [VRs] at k2
      subst k2
      have hl := VRs.det k1 ((msgA_rel hx).mono hle)
      subst hl
      have hxW : MsgR W l' x := hx.keeps (Keeps.below (w := w) (w' := W) hS.bas)
      refine (msg_great l' x W hxW).mono ?_
      rintro e w' ⟨b, rfl, _, hk⟩
      obtain ⟨g1, g2⟩ := below_step hS hk.below s.wr
      obtain ⟨rfl, hn, rfl⟩ := St.mk'_eq hm
      obtain ⟨t1, t2, t3⟩ := g1.truth b (hwr _ (by simp)) hn s.wr
      refine ⟨_, .bool b, rfl, ⟨_, Ren.upd_same _ _ _, rfl, rfl⟩, t2, ?_⟩
      exact ⟨t3.mono, fun id l h1 h2 => (by
        obtain ⟨q1, q2⟩ := t3.newb id l h1 h2
        refine ⟨q1, q2.imp_left fun q => Nat.le_trans hk.size q⟩), (Kp.of_below _ hk.below).trans t3.kp |>.mono (fun _ _ e => e)⟩
    · cases h
end Go.Proofs.Ytgaaonbjfhklbaa

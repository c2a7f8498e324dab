/- An evaluator over named blocks: x, m[k] = y, z. Nothing of the program stands here. -/
import Derived.Test.YtahopbjoaoiknaaEv8
namespace Go.Proofs.Ytahopbjoaoiknaa
set_option linter.unusedVariables false
set_option linter.unusedSimpArgs false
open Go.RowKit

def evMapEntry (P : Program) (t : TypeId) (x key : Value) (s : St) : Option (Value × St) :=
  match P.underlying t with
  | some (.map k e) => match zeroOf P e, x with
    | some z, .map (some id) => match P.underlying k, key, s.h.get id with
      | some (.int q), .int q' n, some (.mapI q'' m) => match decide (q' = q) && decide (q'' = q) with
        | true => match askB (lookM m n).isSome s with
          | some (false, s1) => match s1.mk' .dead with
            | none => none
            | some (sid, s2) => some (.tuple ⟨[z, .chan (some sid)]⟩, s2.put id (.entI q m n sid))
          | _ => none
        | false => none
      | some .string, .string n, some (.mapS m) => match askB (lookM m n).isSome s with
        | some (false, s1) => match s1.mk' .dead with
          | none => none
          | some (sid, s2) => some (.tuple ⟨[z, .chan (some sid)]⟩, s2.put id (.entS m n sid))
        | _ => none
      | _, _, _ => none
    | _, _ => none
  | _ => none

def evEntryStore (x st val : Value) (s : St) : Option (Value × St) :=
  match x, st with
  | .map (some id), .chan (some sid) => match s.h.get id with
    | some (.entI q m n sid') => match Nat.beq sid sid' with
      | true => some (undef, s.put id (.mapI q (m ++ [(n, val)])))
      | false => none
    | some (.entS m n sid') => match Nat.beq sid sid' with
      | true => some (undef, s.put id (.mapS (m ++ [(n, val)])))
      | false => none
    | _ => none
  | _, _ => none

section
variable {P : Program} {G : Gd}

theorem lookM_none {κ : Type} [DecidableEq κ] {m : List (κ × Value)} {a : κ} (h : lookM m a = none) : ∀ p ∈ m, p.1 ≠ a := by
  intro p hp e
  unfold lookM at h
  rw [Option.map_eq_none_iff, List.find?_eq_none] at h
  exact h p hp (by simpa using e)

theorem entry_fin {F : Nat → Prop} {R : Ren} {w w' : World} {s s1 s2 : St} {id sid : Nat} {o o' : AObj} {l : Loc} {c : Nat} {z : Value} (h1 : s1.h = s.h) (h1' : s1.wr = s.wr) (hm : s1.mk' .dead = some (sid, s2)) (hS : Sat P G F R s.h w)
    (hwr : ∀ k ∈ (s2.put id o').wr, F k) (ho : s.h.get id = some o) (hw : o.own = true) (hw' : o'.own = true) (hl : R id = some l) (hk : Kp (fun g => g = l.blk) w w') (ha : ARun s s2)
    (hs : ∀ R', R.le R' → R' sid = some ⟨w.heap.size, 0, 0, .int .i64 c⟩ → SatObj P R' w' id o') (hz : flat z = true) :
    ∃ R', VR R' (.tuple ⟨[z, .chan (some sid)]⟩) (.tuple #[z, .int .i64 c]) ∧ Sat P G F R' (s2.put id o').h w' ∧ Step R w s.h R' w' (s2.put id o').wr := by
  obtain ⟨rfl, hn, rfl⟩ := St.mk'_eq hm
  rw [h1] at hn
  have hF1 : F (2 * s1.c) := hwr _ (by simp [St.put])
  have hF2 : F id := hwr _ (by simp [St.put])
  obtain ⟨p1, p2, p3⟩ := hS.phantom (l := ⟨w.heap.size, 0, 0, .int .i64 c⟩) hF1 hn (Nat.le_refl _) s.wr
  have hne : 2 * s1.c ≠ id := by rintro rfl; rw [hn] at ho; cases ho
  have ho2 : (s.h.set (2 * s1.c) .dead).get id = some o := by rw [Tr.get_set, if_neg hne]; exact ho
  have hle := Ren.upd_le (l := ⟨w.heap.size, 0, 0, .int .i64 c⟩) p1
  obtain ⟨q1, q2⟩ := p2.write (o' := o') hF2 ho2 hw hw' (hle _ _ hl) (2 * s1.c :: s.wr) (hs _ hle (Ren.upd_same _ _ _)) hk
  refine ⟨R.upd (2 * s1.c) ⟨w.heap.size, 0, 0, .int .i64 c⟩, ⟨_, ⟨[z, .int .i64 c], ⟨z, [.int .i64 c], (VR.flat hz).2 rfl, ⟨.int .i64 c, [], ⟨⟨w.heap.size, 0, 0, .int .i64 c⟩, Ren.upd_same _ _ _, rfl, rfl⟩, rfl, rfl⟩, rfl⟩, rfl⟩, rfl⟩, ?_, ?_⟩
  · simp only [St.put, h1]
    exact q1
  · simp only [St.put, h1']
    refine Step.trans (s1 := { s1 with h := s1.h.set (2 * s1.c) .dead, c := s1.c + 1, wr := 2 * s1.c :: s1.wr }) hS ha (fun k hk => hwr k (by simpa [St.put, h1'] using hk)) (p3.more (fun k hk => by simp at hk ⊢; exact .inr hk)) ?_
    simp only [h1]
    exact q2

theorem evMapEntry_ok {dst : Option Tmp} {t ty : TypeId} {x ix : Operand} {pos : String} {after : Array Edge} {gd : Option (Nat × Bool)} {ρ : Operand → Value} {s s' : St} {v : Value}
    (h : evMapEntry P t (ρ x) (ρ ix) s = some (v, s')) : OpS P G ⟨dst, .mapEntry t x ix, ty, pos, after, gd⟩ ρ s v s' := by
  unfold evMapEntry at h
  split at h
  · rename_i k e hu
    split at h
    · rename_i z id hz hx
      obtain ⟨hzf, hzr⟩ := zeroOf_eq hz
      split at h
      · rename_i q q' n q'' m hk hn ho
        split at h
        · rename_i hq
          simp only [Bool.and_eq_true, decide_eq_true_eq] at hq
          obtain ⟨rfl, rfl⟩ := hq
          split at h
          · rename_i s1 hask
            obtain ⟨a1, a2, a3, a4, a5, a6⟩ := askB_ok hask
            split at h
            · cases h
            rename_i sid s2 hm
            simp only [Option.some.injEq, Prod.mk.injEq] at h
            obtain ⟨rfl, rfl⟩ := h
            have har : ARun s s2 := a1.trans (ARun.mk' hm)
            have ho2 : s2.h.get id = some (.mapI q'' m) := by
              obtain ⟨rfl, hnn, rfl⟩ := St.mk'_eq hm
              rw [a2] at hnn
              simp only [a2]
              rw [Tr.get_set, if_neg (by rintro rfl; rw [hnn] at ho; cases ho)]
              exact ho
            refine ⟨har.trans (ARun.put _ ho2 rfl), fun F R w a hrd hwr hS hob hop K Q hK => ?_⟩
            have hnone := a6 R (fun q hq => hob R (.refl R) q ((ARun.put (o := .mapI q'' m) (.entI q'' m n sid) ho2 rfl).ob q ((ARun.mk' hm).ob q hq)))
            have hF : F id := hwr id (by simp [St.put])
            obtain ⟨l, m', h1, h2, h3⟩ := hS.obj id _ hF ho
            have hx' := hop x (by simp [Op.operands])
            have hn' := hop ix (by simp [Op.operands])
            rw [hx] at hx'
            rw [hn] at hn'
            have hn' : a.eval ix = .int _ n := hn'
            obtain ⟨l', hl', hae⟩ := hx'
            rw [h1] at hl'
            cases hl'
            have hno : lookM m' n = none := by
              rcases h2.look n with ⟨_, _, g1, _, _⟩ | ⟨_, g2⟩
              · rw [g1] at hnone; cases hnone
              · exact g2
            obtain ⟨w', c, hrun, hmid, hkp, _⟩ := h3.entry (keyOk_int hk) hu hzr n (lookM_none hno)
            obtain ⟨R', k1, k2, k3⟩ := entry_fin (o' := .entI q'' m n sid) (c := c) a2 a4 hm hS hwr ho rfl rfl h1 hkp har (fun R' hle hsid => ⟨l, m', _, z, hle _ _ h1, hsid, h2.mono hle, c, rfl, hmid⟩) hzf
            refine wp_value ?_ (hK R' _ w' k1 k2 k3)
            simp only [execOp, hae, hn', Sem.run_bind, hrun, Result.andThen_ok]
            rfl
          · cases h
        · cases h
      · rename_i n m hk hn ho
        split at h
        · rename_i s1 hask
          obtain ⟨a1, a2, a3, a4, a5, a6⟩ := askB_ok hask
          split at h
          · cases h
          rename_i sid s2 hm
          simp only [Option.some.injEq, Prod.mk.injEq] at h
          obtain ⟨rfl, rfl⟩ := h
          have har : ARun s s2 := a1.trans (ARun.mk' hm)
          have ho2 : s2.h.get id = some (.mapS m) := by
            obtain ⟨rfl, hnn, rfl⟩ := St.mk'_eq hm
            rw [a2] at hnn
            simp only [a2]
            rw [Tr.get_set, if_neg (by rintro rfl; rw [hnn] at ho; cases ho)]
            exact ho
          refine ⟨har.trans (ARun.put _ ho2 rfl), fun F R w a hrd hwr hS hob hop K Q hK => ?_⟩
          have hnone := a6 R (fun q hq => hob R (.refl R) q ((ARun.put (o := .mapS m) (.entS m n sid) ho2 rfl).ob q ((ARun.mk' hm).ob q hq)))
          have hF : F id := hwr id (by simp [St.put])
          obtain ⟨l, m', h1, h2, h3⟩ := hS.obj id _ hF ho
          have hx' := hop x (by simp [Op.operands])
          have hn' := hop ix (by simp [Op.operands])
          rw [hx] at hx'
          rw [hn] at hn'
          have hn' : a.eval ix = .string n := hn'
          obtain ⟨l', hl', hae⟩ := hx'
          rw [h1] at hl'
          cases hl'
          have hno : lookM m' n = none := by
            rcases h2.look n with ⟨_, _, g1, _, _⟩ | ⟨_, g2⟩
            · rw [g1] at hnone; cases hnone
            · exact g2
          obtain ⟨w', c, hrun, hmid, hkp, _⟩ := h3.entry (keyOk_string hk) hu hzr n (lookM_none hno)
          obtain ⟨R', k1, k2, k3⟩ := entry_fin (o' := .entS m n sid) (c := c) a2 a4 hm hS hwr ho rfl rfl h1 hkp har (fun R' hle hsid => ⟨l, m', _, z, hle _ _ h1, hsid, h2.mono hle, c, rfl, hmid⟩) hzf
          refine wp_value ?_ (hK R' _ w' k1 k2 k3)
          simp only [execOp, hae, hn', Sem.run_bind, hrun, Result.andThen_ok]
          rfl
        · cases h
      · cases h
    · cases h
  · cases h

theorem evEntryStore_ok {dst : Option Tmp} {t ty : TypeId} {x st vl : Operand} {pos : String} {after : Array Edge} {gd : Option (Nat × Bool)} {ρ : Operand → Value} {s s' : St} {v : Value}
    (h : evEntryStore (ρ x) (ρ st) (ρ vl) s = some (v, s')) : OpS P G ⟨dst, .entryStore t x st vl, ty, pos, after, gd⟩ ρ s v s' := by
  unfold evEntryStore at h
  split at h
  · rename_i id sid hx hst
    split at h
    · rename_i q m n sid' ho
      split at h
      · rename_i hsid
        have hsid := Nat.eq_of_beq_eq_true hsid
        subst hsid
        simp only [Option.some.injEq, Prod.mk.injEq] at h
        obtain ⟨rfl, rfl⟩ := h
        refine ⟨ARun.put _ ho rfl, fun F R w a hrd hwr hS _ hop K Q hK => ?_⟩
        have hF : F id := hwr id (by simp [St.put])
        obtain ⟨l, m', ls, z, h1, h2, h3, c, h5, h4⟩ := hS.obj id _ hF ho
        have hx' := hop x (by simp [Op.operands])
        have hs' := hop st (by simp [Op.operands])
        have hv' := hop vl (by simp [Op.operands])
        rw [hx] at hx'
        rw [hst] at hs'
        obtain ⟨l', hl', hae⟩ := hx'
        obtain ⟨l2, hl2, hse, _⟩ := hs'
        rw [h1] at hl'
        cases hl'
        rw [h2] at hl2
        cases hl2
        rw [h5] at hse
        obtain ⟨w', hrun, hM, hkp, _⟩ := h4.store (P := P) t (a.eval vl)
        obtain ⟨g1, g2⟩ := hS.write (o' := .mapI q (m ++ [(n, ρ vl)])) hF ho rfl rfl h1 s.wr ⟨l, _, h1, h3.append ((VRm.cons (p := (n, ρ vl)) (q := (n, a.eval vl)) (m := []) (m' := [])).2 ⟨rfl, hv', VRm.nil_left.2 rfl⟩), hM⟩ hkp
        refine wp_skip' ?_ (hK R undef w' (VR_undef R) g1 g2)
        simp only [execOp, hae, hse, Sem.run_bind, hrun, Result.andThen_ok]
        rfl
      · cases h
    · rename_i m n sid' ho
      split at h
      · rename_i hsid
        have hsid := Nat.eq_of_beq_eq_true hsid
        subst hsid
        simp only [Option.some.injEq, Prod.mk.injEq] at h
        obtain ⟨rfl, rfl⟩ := h
        refine ⟨ARun.put _ ho rfl, fun F R w a hrd hwr hS _ hop K Q hK => ?_⟩
        have hF : F id := hwr id (by simp [St.put])
        obtain ⟨l, m', ls, z, h1, h2, h3, c, h5, h4⟩ := hS.obj id _ hF ho
        have hx' := hop x (by simp [Op.operands])
        have hs' := hop st (by simp [Op.operands])
        have hv' := hop vl (by simp [Op.operands])
        rw [hx] at hx'
        rw [hst] at hs'
        obtain ⟨l', hl', hae⟩ := hx'
        obtain ⟨l2, hl2, hse, _⟩ := hs'
        rw [h1] at hl'
        cases hl'
        rw [h2] at hl2
        cases hl2
        rw [h5] at hse
        obtain ⟨w', hrun, hM, hkp, _⟩ := h4.store (P := P) t (a.eval vl)
        obtain ⟨g1, g2⟩ := hS.write (o' := .mapS (m ++ [(n, ρ vl)])) hF ho rfl rfl h1 s.wr ⟨l, _, h1, h3.append ((VRm.cons (p := (n, ρ vl)) (q := (n, a.eval vl)) (m := []) (m' := [])).2 ⟨rfl, hv', VRm.nil_left.2 rfl⟩), hM⟩ hkp
        refine wp_skip' ?_ (hK R undef w' (VR_undef R) g1 g2)
        simp only [execOp, hae, hse, Sem.run_bind, hrun, Result.andThen_ok]
        rfl
      · cases h
    · cases h
  · cases h
end
end Go.Proofs.Ytahopbjoaoiknaa

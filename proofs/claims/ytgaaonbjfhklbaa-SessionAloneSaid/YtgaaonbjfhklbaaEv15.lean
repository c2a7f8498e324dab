/- An evaluator over named blocks: a law that first looks whether its input is too great. Nothing of the program stands here. -/
import Derived.Test.YtgaaonbjfhklbaaEv14
namespace Go.Proofs.Ytgaaonbjfhklbaa
set_option linter.unusedVariables false
set_option linter.unusedSimpArgs false
open Go.RowKit

/-- From here on it ends with true. -/
def evTrue (P : Program) (X : ExtT) (call : CallF) (lf : Nat) (fn : Func) (c : Code) (tm : Tr Value) (s : St) : Option St :=
  match evCode P X call lf fn.ntmps c tm s with
  | some (.ret, tm', s') => match evResL P tm' fn.results.toList s' with
    | some ([.bool true], s2) => some s2
    | _ => none
  | _ => none

def evLaw (P : Program) (X : ExtT) (call : CallF) (lf : Nat) (f : FuncId) (args : List Value) (s : St) : Option (St × St) :=
  match P.funcs[f]? with
  | none => none
  | some fn => match fn.body with
    | some (.seq r0 (.seq cA (.seq (.seq rG (.cond (.tmp g) early .skip)) rest))) => match Nat.ble args.length fn.ntmps with
      | false => none
      | true => match evCode P X call lf fn.ntmps r0 (ofL args 0 .nil) s with
        | some (.norm, tm1, s1) => match evCode P X call lf fn.ntmps cA tm1 s1 with
          | some (.norm, tm2, s2) => match evCode P X call lf fn.ntmps rG tm2 s2 with
            | some (.norm, tm3, s3) => match (tm3.get g).getD undef with
              | .chan (some id) => match s3.h.get id with
                | some .isB => match evTrue P X call lf fn early tm3 s3, evTrue P X call lf fn rest tm3 s3 with
                  | some sE, some sR => some (sE, sR)
                  | _, _ => none
                | _ => none
              | _ => none
            | _ => none
          | _ => none
        | _ => none
    | _ => none

section
variable {P : Program} {G : Gd} {X : ExtT} {call : CallF}

def TrueB (B : Nat) (W : World) (e : Ending) (w' : World) : Prop := e = .returned (.bool true) ∧ Below B W w'

def RetOnly (P : Program) (fn : Func) (Q : Ending → World → Prop) : Exit → Act → World → Prop
  | .ret, a, w => bodyPost P fn Q .ret a w
  | _, _, _ => False
theorem RetOnly.body {fn : Func} {Q : Ending → World → Prop} {e : Exit} {a : Act} {w : World} (h : RetOnly P fn Q e a w) : bodyPost P fn Q e a w := by
  cases e <;> first | exact h | exact h.elim
theorem RetOnly.then {fn : Func} {Q : Ending → World → Prop} {next : Act → World → Prop} {e : Exit} {a : Act} {w : World} (h : RetOnly P fn Q e a w) : Exit.then next (bodyPost P fn Q) e a w := by
  cases e <;> first | exact h | exact h.elim

theorem evTrue_ok (hm : P.follows .mixedOrders = true) (hX : ExtOk P X) (hcall : ∀ f args s v s', call f args s = some (v, s') → CallS P G f args s v s') {lf : Nat} {fn : Func} {c : Code} {tm : Tr Value} {s s' : St} (h : evTrue P X call lf fn c tm s = some s') :
    ARun s s' ∧ ∀ (R : Ren) (w : World) (a : Act), Sat P G (fun _ => True) R s.h w → (∀ R', R.le R' → ∀ q ∈ s'.ob, q R') → ActR R fn.ntmps tm a → c.wp P (RetOnly P fn (TrueB G.B G.W)) a w := by
  unfold evTrue at h
  split at h
  · rename_i tm' s1 h1
    split at h
    · rename_i s2 h2
      cases h
      obtain ⟨a1, b1⟩ := evCode_ok hm hX hcall c _ _ _ _ _ h1
      obtain ⟨k1, k2, k3, k4⟩ := evResL_ok (G := G) _ _ _ _ h2
      refine ⟨a1.trans k1, fun R w a hS hob ha => ?_⟩
      refine b1 (fun _ => True) R w a (fun _ _ => trivial) (fun _ _ => trivial) hS (fun R' hR' q hq => hob R' hR' q (k1.ob q hq)) ha _ ?_
      intro R' a' w' ha' hS' hst
      obtain ⟨vs, q1, q2⟩ := k4 (fun _ => True) R' w' a'.tmps (fun _ _ => trivial) hS' ha'.val
      obtain ⟨y, ys, r1, r2, r3⟩ := q2
      simp only [VRs] at r2
      subst r2
      subst r3
      have r1 : y = .bool true := r1
      subst r1
      refine ⟨ha'.defers, .bool true, ?_, rfl, hS'.bas⟩
      have hrun : (fn.results.mapM (resF a'.tmps)).run P w' = .ok #[.bool true] w' := by
        rw [Array.mapM_eq_mapM_toList]
        simp only [Sem.run_map, q1]
        rfl
      rw [results_resF, Sem.run_bind, hrun]
      rfl
    · cases h
  · cases h

theorem evLaw_ok (hm : P.follows .mixedOrders = true) (hX : ExtOk P X) (hcall : ∀ f args s v s', call f args s = some (v, s') → CallS P G f args s v s') {lf : Nat} {f : FuncId} {args avs : List Value} {s sE sR : St} (h : evLaw P X call lf f args s = some (sE, sR)) {R : Ren} {w : World}
    (hS : Sat P G (fun _ => True) R s.h w) (hob : ∀ R', R.le R' → ∀ q, (q ∈ sE.ob ∨ q ∈ sR.ob) → q R') (ha : VRs R args avs) : Calls P f ⟨avs⟩ w (TrueB G.B G.W) := by
  unfold evLaw at h
  split at h
  · cases h
  rename_i fn hfn
  split at h
  · rename_i r0 cA rG g early rest hb
    split at h
    · cases h
    rename_i hle
    have hle := Nat.le_of_ble_eq_true hle
    split at h
    · rename_i tm1 s1 h1
      split at h
      · rename_i tm2 s2 h2
        split at h
        · rename_i tm3 s3 h3
          split at h
          · rename_i id hg
            split at h
            · rename_i hid
              split at h
              · rename_i sE' sR' hE hR
                simp only [Option.some.injEq, Prod.mk.injEq] at h
                obtain ⟨rfl, rfl⟩ := h
                obtain ⟨a1, b1⟩ := evCode_ok hm hX hcall r0 _ _ _ _ _ h1
                obtain ⟨a2, b2⟩ := evCode_ok hm hX hcall cA _ _ _ _ _ h2
                obtain ⟨a3, b3⟩ := evCode_ok hm hX hcall rG _ _ _ _ _ h3
                obtain ⟨aE, bE⟩ := evTrue_ok hm hX hcall hE
                obtain ⟨aR, bR⟩ := evTrue_ok hm hX hcall hR
                refine calls_of_wp hfn hb (wp_seq ?_)
                refine b1 (fun _ => True) R w _ (fun _ _ => trivial) (fun _ _ => trivial) hS (fun R' hR' q hq => hob R' hR' q (.inr (aR.ob q (a3.ob q (a2.ob q hq))))) (ActR.enter ha hle) _ ?_
                intro R1 c1 w1 hc1 hS1 t1
                refine wp_seq ?_
                refine b2 (fun _ => True) R1 w1 c1 (fun _ _ => trivial) (fun _ _ => trivial) hS1 (fun R' hR' q hq => hob R' (t1.mono.trans hR') q (.inr (aR.ob q (a3.ob q hq)))) hc1 _ ?_
                intro R2 c2 w2 hc2 hS2 t2
                refine wp_seq (wp_seq ?_)
                refine b3 (fun _ => True) R2 w2 c2 (fun _ _ => trivial) (fun _ _ => trivial) hS2 (fun R' hR' q hq => hob R' ((t1.mono.trans t2.mono).trans hR') q (.inr (aR.ob q hq))) hc2 _ ?_
                intro R3 c3 w3 hc3 hS3 t3
                have hle3 : R.le R3 := (t1.mono.trans t2.mono).trans t3.mono
                have hv := hc3.val g
                rw [hg] at hv
                obtain ⟨l, q1, q2, _⟩ := hv
                obtain ⟨l', b, q3, q4⟩ := hS3.obj id _ trivial hid
                rw [q1] at q3
                cases q3
                have hev : c3.eval (.tmp g) = .bool b := by rw [← q4, ← q2]; rfl
                cases b with
                | true =>
                  exact wp_cond_true hev (wp_mono (bE R3 w3 c3 hS3 (fun R' hR' q hq => hob R' (hle3.trans hR') q (.inl hq)) hc3) fun e a w he => he.then)
                | false =>
                  exact wp_cond_false hev (wp_skip (wp_mono (bR R3 w3 c3 hS3 (fun R' hR' q hq => hob R' (hle3.trans hR') q (.inr hq)) hc3) fun e a w he => he.body))
              · cases h
            · cases h
          · cases h
        · cases h
      · cases h
    · cases h
  · cases h
end
end Go.Proofs.Ytgaaonbjfhklbaa

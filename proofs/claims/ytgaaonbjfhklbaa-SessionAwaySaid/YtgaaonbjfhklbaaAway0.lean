/- SessionAway: what is handed to the evaluator. -/
import Derived.Test.YtgaaonbjfhklbaaAlive
import Derived.Test.YtgaaonbjfhklbaaSrt2
import Derived.Test.YtgaaonbjfhklbaaEv16
namespace Go.Proofs.Ytgaaonbjfhklbaa
set_option linter.unusedVariables false
set_option linter.unusedSimpArgs false
open Go.RowKit

theorem below_sat {P : Program} {G : Gd} {F : Nat → Prop} {R : Ren} {h : Tr AObj} {w w' : World} (hS : Sat P G F R h w) (hb : Below w.heap.size w w') (wr : List Nat) : Sat P G F R h w' ∧ Step R w h R w' wr := kp_step hS (Kp.of_below _ hb) wr

/-- The calls that are known beforehand. -/
def awayO : CallF := fun f args s =>
  match Nat.beq f 7 with
  | true => match args with
    | [] => some (.bool true, s)
    | _ => none
  | false => match Nat.beq f 32 with
    | true => evSorted .u64 23 51 args s
    | false => none

theorem awayO_ok (G : Gd) : ∀ f args s v s', awayO f args s = some (v, s') → CallS Try.prog G f args s v s' := by
  intro f args s v s' h
  unfold awayO at h
  split at h
  · rename_i hf
    have hf := Nat.eq_of_beq_eq_true hf
    subst hf
    split at h <;> cases h
    refine ⟨ARun.refl s, fun F R W avs hrd hwr hS hob ha => ?_⟩
    simp only [VRs] at ha
    subst ha
    refine (alive_calls W).mono ?_
    rintro e w' ⟨rfl, hb⟩
    obtain ⟨g1, g2⟩ := below_sat hS hb s.wr
    exact ⟨R, _, rfl, rfl, g1, g2⟩
  · split at h
    · rename_i hf
      have hf := Nat.eq_of_beq_eq_true hf
      subst hf
      obtain ⟨i, hi, h0, h1, h2⟩ := info_parts infoK
      exact evSorted_ok hi h1 (fun Bm b m hl w h1 h2 h3 zs h4 h5 => (prog_sorted Bm b m hl w h1 h2 h3 zs h4 h5).mono (by
        rintro e w' ⟨v, q1, q2, q3, q4⟩
        exact ⟨v, q1, q2, q3, q4⟩)) h
    · cases h

noncomputable def awayRun (away wait done : Int) (hs : List Hint) : Option (Value × St) :=
  evCallN Try.prog extX awayO 100 50 4 [.int .u32 away, .int .u32 wait, .int .u8 done] ⟨.nil, 0, [], [], [], hs⟩
def obsV (r : Option (Value × St)) : Option (Value × List (Ren → Prop)) := r.map fun p => (p.1, p.2.ob)
theorem away_fin {w : World} {away wait done : Int} {hs : List Hint} {ob : List (Ren → Prop)} (h : obsV (awayRun away wait done hs) = some (.bool true, ob)) (ho : ∀ R, ∀ q ∈ ob, q R) :
    Calls Try.prog 4 #[.int .u32 away, .int .u32 wait, .int .u8 done] w fun e w' => e = .returned (.bool true) ∧ Below w.heap.size w w' := by
  unfold obsV at h
  cases hr : awayRun away wait done hs with
  | none => rw [hr] at h; cases h
  | some p =>
    obtain ⟨v, s'⟩ := p
    rw [hr] at h
    simp only [Option.map_some, Option.some.injEq, Prod.mk.injEq] at h
    obtain ⟨rfl, rfl⟩ := h
    refine (ev_open (R := fun _ => none) mixed extX_ok (awayO_ok _) (fun _ _ h => by cases h) hr (VRs_flat3) (fun R' _ q hq => ho R' q hq)).mono ?_
    rintro e w' ⟨R', v2, rfl, h1, _, h2⟩
    have h1 : v2 = .bool true := h1
    rw [h1]
    exact ⟨rfl, h2⟩
where VRs_flat3 {R : Ren} {away wait done : Int} : VRs R [.int .u32 away, .int .u32 wait, .int .u8 done] [.int .u32 away, .int .u32 wait, .int .u8 done] := ⟨_, _, rfl, ⟨_, _, rfl, ⟨_, _, rfl, rfl, rfl⟩, rfl⟩, rfl⟩

def nC (done : Int) : Int := IntKind.u32.wrap (done.tmod 8)
def subC (wait : Int) : Int := IntKind.u32.wrap (wait - 0)
theorem nC_eq {d : Int} (h : 0 ≤ d) : nC d = d % 8 := by
  unfold nC
  rw [Int.tmod_eq_emod_of_nonneg h]
  show (d % 8) % 4294967296 = d % 8
  omega
theorem subC_eq {d : Int} (h : 0 ≤ d ∧ d ≤ 4294967295) : subC d = d := by
  unfold subC
  show (d - 0) % 4294967296 = d
  omega
end Go.Proofs.Ytgaaonbjfhklbaa

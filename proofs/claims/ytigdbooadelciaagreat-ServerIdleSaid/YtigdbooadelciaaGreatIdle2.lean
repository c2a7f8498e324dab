/- ServerIdle: the calls by contract. -/
import Derived.Test.YtigdbooadelciaaGreatIdle0
namespace Go.Proofs.YtigdbooadelciaaGreat
set_option linter.unusedVariables false
set_option linter.unusedSimpArgs false
open Go.RowKit

/-- The server lies at bs in a state that lasts. -/
def AtP (S : Sta) (w0 w : World) (b : Nat) : Prop := ∃ R u, SatC Tryz.prog ⟨w0, w0.heap.size⟩ R S.tree w ∧ R 1 = some ⟨b, 0, 0, u⟩
/-- .. and a row under the name k, at g. -/
def AtQ (S : Sta) (k : Nat) (w0 w : World) (b g ext : Nat) : Prop := ∃ R u u', SatC Tryz.prog ⟨w0, w0.heap.size⟩ R S.tree w ∧ R 1 = some ⟨b, 0, 0, u⟩ ∧ R k = some ⟨g, 0, ext, u'⟩

theorem AtP.kp {S : Sta} {w0 w w' : World} {b : Nat} (h : AtP S w0 w b) (k : Kp (fun _ => False) w w') : AtP S w0 w' b := by
  obtain ⟨R, u, h1, h2⟩ := h
  exact ⟨R, u, h1.kp k, h2⟩
theorem AtQ.kp {S : Sta} {k : Nat} {w0 w w' : World} {b g ext : Nat} (h : AtQ S k w0 w b g ext) (kk : Kp (fun _ => False) w w') : AtQ S k w0 w' b g ext := by
  obtain ⟨R, u, u', h1, h2, h3⟩ := h
  exact ⟨R, u, u', h1.kp kk, h2, h3⟩
theorem AtP.below {S : Sta} {w0 w : World} {b : Nat} (h : AtP S w0 w b) : Below w0.heap.size w0 w := by
  obtain ⟨R, u, h1, h2⟩ := h
  exact h1.sat.bas
theorem AtQ.below {S : Sta} {k : Nat} {w0 w : World} {b g ext : Nat} (h : AtQ S k w0 w b g ext) : Below w0.heap.size w0 w := by
  obtain ⟨R, u, u', h1, h2, h3⟩ := h
  exact h1.sat.bas
theorem keep_to {S : Sta} {olds : List Nat} {z i j : Nat} (h : (S.keep olds).to i = some j) : (S.keep olds).σ z i = j := by unfold Keep.σ; rw [h]; rfl

section
variable {S S' : Sta} {olds : List Nat} {f : FuncId} {args : List Value} {hs : List Hint} {v : Value} {ob : List (Ren → Prop)} {z : Nat} {w0 w : World} {b : Nat}
/-- A call on the server with flat arguments beside. -/
theorem AtP.call (h : AtP S w0 w b) (hrun : obsK (evCallN Tryz.prog extX idleO 1000 100 f (.pointer (some ⟨1, 0, none⟩) :: args) ⟨S.tree, 0, [], [], [], hs⟩) z (S'.keep olds) = some (v, ob, Keep.want z (S'.keep olds)))
    (hok : (S'.keep olds).ok z = true) (hl : olds.length = S'.length) (h1 : (S'.keep olds).to 1 = some 1) (ha : flatL args = true) (hob : ∀ R', ∀ q ∈ ob, q R') :
    Calls Tryz.prog f ⟨.pointer (some ⟨b, 0, none⟩) :: args⟩ w fun e w' => ∃ R' v', e = .returned v' ∧ VR R' v v' ∧ AtP S' w0 w' b ∧ SatC Tryz.prog ⟨w0, w0.heap.size⟩ (fun i => R' ((S'.keep olds).σ z i)) S'.tree w' ∧ ∃ u, R' 1 = some ⟨b, 0, 0, u⟩ := by
  obtain ⟨R, u, hS, hb⟩ := h
  refine (SatC.step mixed extX_ok (idleO_ok _) hS hrun hok hl (avs := .pointer (some ⟨b, 0, none⟩) :: args) ⟨_, _, ⟨_, hb, rfl⟩, (VRs.flat ha).2 rfl, rfl⟩ hob).mono ?_
  rintro e w' ⟨R', v', rfl, g1, g2, g3, g4⟩
  have hb' := g2 _ _ hb
  exact ⟨R', v', rfl, g1, ⟨_, u, g3, by rw [keep_to h1]; exact hb'⟩, g3, u, hb'⟩
/-- A call that doesn't speak of the server, with flat arguments. -/
theorem AtP.call0 (h : AtP S w0 w b) (hrun : obsK (evCallN Tryz.prog extX idleO 1000 100 f args ⟨S.tree, 0, [], [], [], hs⟩) z (S'.keep olds) = some (v, ob, Keep.want z (S'.keep olds)))
    (hok : (S'.keep olds).ok z = true) (hl : olds.length = S'.length) (h1 : (S'.keep olds).to 1 = some 1) (ha : flatL args = true) (hob : ∀ R', ∀ q ∈ ob, q R') :
    Calls Tryz.prog f ⟨args⟩ w fun e w' => ∃ R' v', e = .returned v' ∧ VR R' v v' ∧ SatC Tryz.prog ⟨w0, w0.heap.size⟩ (fun i => R' ((S'.keep olds).σ z i)) S'.tree w' ∧ ∃ u, R' 1 = some ⟨b, 0, 0, u⟩ := by
  obtain ⟨R, u, hS, hb⟩ := h
  refine (SatC.step mixed extX_ok (idleO_ok _) hS hrun hok hl (avs := args) ((VRs.flat ha).2 rfl) hob).mono ?_
  rintro e w' ⟨R', v', rfl, g1, g2, g3, g4⟩
  exact ⟨R', v', rfl, g1, g3, u, g2 _ _ hb⟩
end

/-- What a name says of a loose row: where it begins. -/
theorem loose_loc {R : Ren} {w : World} {id : Nat} {cs : List Value} {t : TypeId} (h : SatObj Tryz.prog R w id (.loose cs t)) : ∃ g ext u, R id = some ⟨g, 0, ext, u⟩ ∧ ∀ (j : Nat) (x : Value), cs[j]? = some x → flat x = true → w.cell? ⟨g, j, none⟩ = some x := by
  obtain ⟨l, h1, h2⟩ := h.read (cs := cs) rfl
  obtain ⟨l', cur, i, n, k1, k2, _⟩ := h
  rw [h1] at k1
  cases k1
  obtain ⟨lb, lo, le, lu⟩ := l
  simp only at k2
  subst k2
  refine ⟨lb, le, lu, h1, fun j x hx hf => ?_⟩
  obtain ⟨v, hv, hc⟩ := h2 j x hx
  rw [VR.flat hf] at hv
  subst hv
  simpa using hc

theorem noOb : ∀ R' : Ren, ∀ q ∈ ([] : List (Ren → Prop)), q R' := fun _ q h => by cases h
theorem newI (idle : Int) (w : World) : Calls Tryz.prog 6 #[.agg #[.slice none 0 0, .int .i64 4, .int .u32 3, .int .u32 idle, .int .u32 1000, .int .u32 20]] w fun e w' => ∃ b, e = .returned (.pointer (some ⟨b, 0, none⟩)) ∧ AtP (stN idle) w w' b := by
  refine (SatC.step mixed extX_ok (idleO_ok _) (S := sta0) (SatC.start (R := fun _ => none) (fun _ _ h => by cases h) w) (new_runI idle) (by kernel_rfl) rfl ((VRs.flat rfl).2 rfl) noOb).mono ?_
  rintro e w' ⟨R', v', rfl, ⟨l, g1, rfl⟩, g2, g3, g4⟩
  obtain ⟨l1, cur, k1, k2, k3, k4, k5⟩ := g3.sat.obj 1 (.cells _ _) trivial rfl
  have k1' : R' 28 = some l1 := k1
  simp only at g1
  rw [k1'] at g1
  cases g1
  obtain ⟨lb, lo, le, lu⟩ := l
  simp only at k2 k3
  subst k2 k3
  exact ⟨lb, by simp, _, lu, g3, k1'⟩
theorem accI (idle : Int) {w0 w : World} {b : Nat} (h : AtP (stN idle) w0 w b) : Calls Tryz.prog 9 #[.pointer (some ⟨b, 0, none⟩)] w fun e w' => e = .returned (.tuple #[.int .i64 1, .int .i64 0]) ∧ AtP (stA idle) w0 w' b := by
  refine (h.call (acc_runI idle) (by kernel_rfl) rfl rfl rfl noOb).mono ?_
  rintro e w' ⟨R', v', rfl, g1, g2, g3, g4⟩
  rw [VR.flat rfl] at g1
  rw [g1]
  exact ⟨rfl, g2⟩
theorem frhI (idle : Int) {w0 w : World} {b : Nat} (h : AtP (stA idle) w0 w b) : Calls Tryz.prog 13 #[msgC 1 3 0 0] w fun e w' => ∃ g ext, e = .returned (.slice (some ⟨g, 0, none⟩) 10 (10 + ext)) ∧ AtQ (stAf idle) 37 w0 w' b g ext := by
  refine (h.call0 (frh_runI idle) (by kernel_rfl) rfl rfl rfl noOb).mono ?_
  rintro e w' ⟨R', v', rfl, ⟨l, g1, rfl⟩, g3, u, g4⟩
  obtain ⟨g, ext, u', k1, k2⟩ := loose_loc (g3.sat.obj 37 (.loose _ _) trivial rfl)
  have k1' : R' 34 = some ⟨g, 0, ext, u'⟩ := k1
  simp only at g1
  rw [k1'] at g1
  cases g1
  exact ⟨g, ext, rfl, _, u, u', g3, g4, k1'⟩
theorem inhI (idle : Int) {w0 w : World} {b g ext : Nat} (h : AtQ (stAf idle) 37 w0 w b g ext) : Calls Tryz.prog 10 #[.pointer (some ⟨b, 0, none⟩), .int .i64 1, .slice (some ⟨g, 0, none⟩) 10 (10 + ext)] w fun e w' => e = .returned (.tuple #[.int .i64 10, .int .i64 0]) ∧ AtP (stH idle) w0 w' b := by
  obtain ⟨R, u, u', hS, hb, hg⟩ := h
  refine (SatC.step mixed extX_ok (idleO_ok _) hS (inh_runI idle) (by kernel_rfl) rfl (avs := [.pointer (some ⟨b, 0, none⟩), .int .i64 1, .slice (some ⟨g, 0, none⟩) 10 (10 + ext)]) ⟨_, _, ⟨_, hb, rfl⟩, ⟨_, _, rfl, ⟨_, _, ⟨_, hg, rfl⟩, rfl, rfl⟩, rfl⟩, rfl⟩ noOb).mono ?_
  rintro e w' ⟨R', v', rfl, g1, g2, g3, g4⟩
  rw [VR.flat rfl] at g1
  rw [g1]
  exact ⟨rfl, _, u, g3, g2 _ _ hb⟩
theorem outhI (idle : Int) {w0 w : World} {b : Nat} (h : AtP (stH idle) w0 w b) : Calls Tryz.prog 11 #[.pointer (some ⟨b, 0, none⟩), .int .i64 1, .int .i64 1000] w fun e w' => ∃ g o c, e = .returned (.tuple #[.slice (some ⟨g, o, none⟩) 12 c, .bool true]) ∧ AtP (stS idle 0 0) w0 w' b := by
  refine (h.call (outh_runI idle) (by kernel_rfl) rfl rfl rfl noOb).mono ?_
  rintro e w' ⟨R', v', rfl, g1, g2, g3, g4⟩
  obtain ⟨a', ⟨l', ⟨y, ys, ⟨l, q1, rfl⟩, ⟨y2, ys2, q3, q4, rfl⟩, rfl⟩, rfl⟩, rfl⟩ := g1
  simp only [VRs] at q4
  subst q4
  have q3 : y2 = .bool true := q3
  subst q3
  exact ⟨_, _, _, rfl, g2⟩

theorem wrap_u32 {n : Int} (h : 0 ≤ n ∧ n < 4294967296) : IntKind.u32.wrap n = n := by rw [IntKind.wrap_u32]; omega
theorem tickI (idle clock heard : Int) {w0 w : World} {b : Nat} (h : AtP (stS idle clock heard) w0 w b) (hc : 0 ≤ heard ∧ heard ≤ clock ∧ clock < 1000000) (hi : clock + 1 - heard ≤ idle) : Calls Tryz.prog 14 #[.pointer (some ⟨b, 0, none⟩)] w fun e w' => e = .returned (.tuple #[]) ∧ AtP (stS idle (clock + 1) heard) w0 w' b := by
  have e1 : IntKind.u32.wrap (clock + 1) = clock + 1 := wrap_u32 (by omega)
  have e2 : IntKind.u32.wrap (clock + 1 - heard) = clock + 1 - heard := wrap_u32 (by omega)
  have hr := tick_runI idle clock heard
  rw [e1, e2] at hr
  refine (h.call hr (by kernel_rfl) rfl rfl rfl (fun R' q hq => ?_)).mono ?_
  · simp only [List.mem_cons, List.not_mem_nil, or_false] at hq
    rcases hq with rfl | rfl
    · exact decide_eq_false (by omega)
    · exact decide_eq_true (by omega)
  rintro e w' ⟨R', v', rfl, g1, g2, g3, g4⟩
  rw [VR.flat rfl] at g1
  rw [g1]
  exact ⟨rfl, g2⟩
theorem tickJ (idle clock heard : Int) {w0 w : World} {b : Nat} (h : AtP (stS idle clock heard) w0 w b) (hc : 0 ≤ heard ∧ heard ≤ clock ∧ clock < 1000000) (hi : idle < clock + 1 - heard) : Calls Tryz.prog 14 #[.pointer (some ⟨b, 0, none⟩)] w fun e w' => e = .returned (.tuple #[]) ∧ AtP (stT idle (clock + 1) heard (clock + 1)) w0 w' b := by
  have e1 : IntKind.u32.wrap (clock + 1) = clock + 1 := wrap_u32 (by omega)
  have e2 : IntKind.u32.wrap (clock + 1 - heard) = clock + 1 - heard := wrap_u32 (by omega)
  have e3 : IntKind.u32.wrap (clock + 1 - (clock + 1)) = 0 := by rw [show clock + 1 - (clock + 1) = 0 by omega]; rfl
  have hr := tick_runJ idle clock heard
  rw [e1, e2, e3] at hr
  refine (h.call hr (by kernel_rfl) rfl rfl rfl (fun R' q hq => ?_)).mono ?_
  · simp only [List.mem_cons, List.not_mem_nil, or_false] at hq
    rcases hq with rfl | rfl | rfl | rfl
    · rfl
    · exact decide_eq_true (by omega)
    · exact decide_eq_true (by omega)
    · exact decide_eq_true (by omega)
  rintro e w' ⟨R', v', rfl, g1, g2, g3, g4⟩
  rw [VR.flat rfl] at g1
  rw [g1]
  exact ⟨rfl, g2⟩
theorem tickT (idle clock heard since : Int) {w0 w : World} {b : Nat} (h : AtP (stT idle clock heard since) w0 w b) (hc : 0 ≤ heard ∧ heard ≤ clock ∧ clock < 1000000) (hi : idle < clock + 1 - heard) (hs : 0 ≤ since ∧ since ≤ clock ∧ clock < since + 900) : Calls Tryz.prog 14 #[.pointer (some ⟨b, 0, none⟩)] w fun e w' => e = .returned (.tuple #[]) ∧ AtP (stT idle (clock + 1) heard since) w0 w' b := by
  have e1 : IntKind.u32.wrap (clock + 1) = clock + 1 := wrap_u32 (by omega)
  have e2 : IntKind.u32.wrap (clock + 1 - heard) = clock + 1 - heard := wrap_u32 (by omega)
  have e3 : IntKind.u32.wrap (clock + 1 - since) = clock + 1 - since := wrap_u32 (by omega)
  have hr := tick_runT idle clock heard since
  rw [e1, e2, e3] at hr
  refine (h.call hr (by kernel_rfl) rfl rfl rfl (fun R' q hq => ?_)).mono ?_
  · simp only [List.mem_cons, List.not_mem_nil, or_false] at hq
    rcases hq with rfl | rfl | rfl | rfl
    · exact decide_eq_false (by omega)
    · exact decide_eq_true (by omega)
    · exact decide_eq_true (by omega)
    · exact decide_eq_true (by omega)
  rintro e w' ⟨R', v', rfl, g1, g2, g3, g4⟩
  rw [VR.flat rfl] at g1
  rw [g1]
  exact ⟨rfl, g2⟩
end Go.Proofs.YtigdbooadelciaaGreat

/- SessionAlone: on a connection that isn't there nothing comes of anything; on a new one nothing but Hello, Resume and Goaway is taken, and it is shut: the walk. -/
import Derived.Test.YtgaaonbjfhklbaaAlone0
import Derived.Test.YtgaaonbjfhklbaaCameMsg
namespace Go.Proofs.Ytgaaonbjfhklbaa
set_option linter.unusedVariables false
set_option linter.unusedSimpArgs false
open Go.RowKit

noncomputable def aloneRun (es : List Value) (x : MsgC) (conn now : Int) (hs : List Hint) : Option (St × St) :=
  evLaw Try.prog extX (evCallN Try.prog extX (aloneO es x) 100 50) 100 3 [.int .i64 conn, .agg ⟨msgA x⟩, .int .u32 now] ⟨.nil, 0, [], [], [], hs⟩
noncomputable def obsOf (r : Option (St × St)) : Option (List (Ren → Prop) × List (Ren → Prop)) := r.map fun p => (p.1.ob, p.2.ob)
def obA : Ren → Prop := fun _ => ([] : List Value) = []
def obG (es : List Value) (x : MsgC) : Ren → Prop := fun R => ([.agg ⟨msgA x⟩] : List Value) = [.agg ⟨msgA x⟩] ∧ (msgN es).le R
def conM (conn : Int) : List (Int × Value) := [(conn, ptrTo 16)]
def obL (conn : Int) : Ren → Prop := fun _ => lookM (conM conn) conn = ((conM conn)[0]?).map (·.2)

theorem alone_fin {w : World} {es : List Value} {x : MsgC} (hx : MsgR w es x) {conn now : Int} {hs : List Hint} {o1 o2 : List (Ren → Prop)} (h : obsOf (aloneRun es x conn now hs) = some (o1, o2)) (ho : ∀ R, (msgN es).le R → (∀ q ∈ o1, q R) ∧ ∀ q ∈ o2, q R) :
    Calls Try.prog 3 #[.int .i64 conn, .agg ⟨es⟩, .int .u32 now] w fun e w' => e = .returned (.bool true) ∧ Below w.heap.size w w' := by
  unfold obsOf at h
  cases hr : aloneRun es x conn now hs with
  | none => rw [hr] at h; cases h
  | some p =>
    obtain ⟨sE, sR⟩ := p
    rw [hr] at h
    simp only [Option.map_some, Option.some.injEq, Prod.mk.injEq] at h
    obtain ⟨rfl, rfl⟩ := h
    exact evLaw_ok mixed extX_ok (evCallN_ok mixed extX_ok (aloneO_ok hx) 100 50) hr (Sat.start (msgN_odd es) w)
      (fun R' hR' q hq => hq.elim (fun hq => (ho R' hR').1 q hq) (fun hq => (ho R' hR').2 q hq)) (VRs_cons rfl (VRs_cons ⟨_, ⟨_, msgA_rel hx, rfl⟩, rfl⟩ (VRs_cons rfl rfl)))

/-- h.caps & x.Caps. -/
def andC (c : Int) : Int := IntKind.u32.wrap (((BitVec.ofInt 32 3 &&& BitVec.ofInt 32 c).toNat : Nat) : Int)

theorem run_goaway (es : List Value) (x : MsgC) (conn now : Int) :
    obsOf (aloneRun es { x with kind := 6 } conn now [.auto, .auto, .auto, .auto, .auto, .auto, .at_ (some 0), .auto, .at_ (some 0), .auto, .auto, .auto, .auto, .b false, .b false, .auto, .auto, .auto]) =
      some ([obG es { x with kind := 6 }, obA], [fun _ => (((delM (conM conn) conn).length : Int) != 0) = false, fun _ => (conn != conn) = false, obL conn, obL conn, obG es { x with kind := 6 }, obA]) := by kernel_rfl
theorem run_hello (es : List Value) (x : MsgC) (conn now : Int) :
    obsOf (aloneRun es { x with kind := 1 } conn now [.auto, .auto, .auto, .auto, .auto, .auto, .at_ (some 0), .auto, .auto, .auto, .b false, .auto, .auto, .auto, .auto, .b true, .auto, .auto, .auto, .b true, .b true, .auto]) =
      some ([obG es { x with kind := 1 }, obA], [fun _ => (conn == conn) = true, fun _ => (andC x.caps == x.caps.tmod 4) = true, fun _ => (x.caps.tmod 4 != 0) = true, fun _ => (andC x.caps == 0) = false, obL conn, obG es { x with kind := 1 }, obA]) := by kernel_rfl
theorem run_hello_caps (es : List Value) (x : MsgC) (conn now : Int) :
    obsOf (aloneRun es { x with kind := 1 } conn now [.auto, .auto, .auto, .auto, .auto, .auto, .at_ (some 0), .auto, .auto, .auto, .b true, .at_ (some 0), .auto, .auto, .auto, .b false, .auto, .b false, .b false, .auto, .auto, .auto, .auto, .auto]) =
      some ([obG es { x with kind := 1 }, obA], [fun _ => (((delM (conM conn) conn).length : Int) != 0) = false, fun _ => (conn != conn) = false, fun _ => (x.caps.tmod 4 != 0) = false, obL conn, fun _ => (andC x.caps == 0) = true, obL conn, obG es { x with kind := 1 }, obA]) := by kernel_rfl
theorem run_resume (es : List Value) (x : MsgC) (conn now : Int) :
    obsOf (aloneRun es { x with kind := 3 } conn now [.auto, .auto, .auto, .auto, .auto, .auto, .at_ (some 0), .auto, .auto, .auto, .auto, .auto, .auto, .at_ (some 0), .auto, .auto, .auto, .auto, .b false, .b false, .auto, .auto, .auto, .auto, .auto, .auto]) =
      some ([obG es { x with kind := 3 }, obA], [fun _ => (((delM (conM conn) conn).length : Int) != 0) = false, fun _ => (conn != conn) = false, obL conn, obL conn, obG es { x with kind := 3 }, obA]) := by kernel_rfl
theorem run_other (es : List Value) (x : MsgC) (conn now : Int) :
    obsOf (aloneRun es x conn now [.auto, .auto, .auto, .auto, .auto, .auto, .at_ (some 0), .b false, .auto, .b false, .auto, .b false, .auto, .at_ (some 0), .auto, .auto, .b false, .auto, .b false, .b false, .auto, .b false, .b false, .b false, .auto, .auto, .auto]) =
      some ([obG es x, obA], [fun _ => (x.kind == 3) = false, fun _ => (x.kind == 1) = false, fun _ => (x.kind == 6) = false, fun _ => (((delM (conM conn) conn).length : Int) != 0) = false, fun _ => (conn != conn) = false, fun _ => (x.kind == 1) = false, obL conn, fun _ => (x.kind == 3) = false, fun _ => (x.kind == 1) = false, fun _ => (x.kind == 6) = false, obL conn, obG es x, obA]) := by kernel_rfl
theorem andC_eq {c : Int} (h : 0 ≤ c ∧ c ≤ 4294967295) : andC c = c % 4 := by
  obtain ⟨n, rfl⟩ := Int.eq_ofNat_of_zero_le h.1
  have hn : n < 4294967296 := by omega
  have e : (BitVec.ofInt 32 3 &&& BitVec.ofInt 32 (n : Int)).toNat = n % 4 := by
    rw [BitVec.toNat_and]
    have h1 : (BitVec.ofInt 32 (n : Int)).toNat = n := by
      rw [BitVec.ofInt_natCast, BitVec.toNat_ofNat]
      exact Nat.mod_eq_of_lt hn
    have h2 : (BitVec.ofInt 32 3).toNat = 3 := by decide
    rw [h1, h2, Nat.and_comm]
    exact Nat.and_two_pow_sub_one_eq_mod n 2
  unfold andC
  rw [e]
  show ((n % 4 : Nat) : Int) % 4294967296 = (n : Int) % 4
  omega
theorem lookM_conM (conn : Int) : lookM (conM conn) conn = ((conM conn)[0]?).map (·.2) := by simp [lookM, conM]
theorem delM_conM (conn : Int) : (((delM (conM conn) conn).length : Int) != 0) = false := by simp [delM, conM]
theorem sessionAlone_walk (v0 v1 v2 : Value) (w : World) (h0 : Came Try.prog w 3 v0) (h1 : Came Try.prog w 37 v1) (h2 : Came Try.prog w 22 v2) :
    Calls Try.prog 3 #[v0, v1, v2] w fun e w' => e = .returned (.bool true) ∧ Below w.heap.size w w' := by
  obtain ⟨conn, rfl, _⟩ := Came.int Try.underlying3 h0
  obtain ⟨es, x, rfl, hx, hc⟩ := came_msg h1
  obtain ⟨now, rfl, _⟩ := Came.int Try.underlying22 h2
  have hG : ∀ y : MsgC, ∀ R, (msgN es).le R → obG es y R := fun y R h => ⟨rfl, h⟩
  have hA : ∀ R, obA R := fun _ => rfl
  have hL := lookM_conM conn
  have hD := delM_conM conn
  have hn : (conn != conn) = false := by simp
  by_cases k6 : x.kind = 6
  · have e : x = { x with kind := 6 } := by rw [← k6]
    rw [e] at hx
    refine alone_fin hx (run_goaway es x conn now) fun R hR => ⟨?_, ?_⟩ <;> intro q hq <;> simp only [List.mem_cons, List.not_mem_nil, or_false] at hq
    · rcases hq with rfl | rfl
      · exact hG _ R hR
      · exact hA R
    · rcases hq with rfl | rfl | rfl | rfl | rfl | rfl
      · exact hD
      · exact hn
      · exact hL
      · exact hL
      · exact hG _ R hR
      · exact hA R
  by_cases k1 : x.kind = 1
  · have e : x = { x with kind := 1 } := by rw [← k1]
    rw [e] at hx
    have ha := andC_eq hc
    have ht : x.caps.tmod 4 = x.caps % 4 := Int.tmod_eq_emod_of_nonneg hc.1
    by_cases h4 : x.caps % 4 = 0
    · refine alone_fin hx (run_hello_caps es x conn now) fun R hR => ⟨?_, ?_⟩ <;> intro q hq <;> simp only [List.mem_cons, List.not_mem_nil, or_false] at hq
      · rcases hq with rfl | rfl
        · exact hG _ R hR
        · exact hA R
      · rcases hq with rfl | rfl | rfl | rfl | rfl | rfl | rfl | rfl
        · exact hD
        · exact hn
        · show (x.caps.tmod 4 != 0) = false
          rw [ht, h4]; rfl
        · exact hL
        · show (andC x.caps == 0) = true
          rw [ha, h4]; rfl
        · exact hL
        · exact hG _ R hR
        · exact hA R
    · refine alone_fin hx (run_hello es x conn now) fun R hR => ⟨?_, ?_⟩ <;> intro q hq <;> simp only [List.mem_cons, List.not_mem_nil, or_false] at hq
      · rcases hq with rfl | rfl
        · exact hG _ R hR
        · exact hA R
      · rcases hq with rfl | rfl | rfl | rfl | rfl | rfl | rfl
        · show (conn == conn) = true
          simp
        · show (andC x.caps == x.caps.tmod 4) = true
          rw [ha, ht]; simp
        · show (x.caps.tmod 4 != 0) = true
          rw [ht]; simpa using h4
        · show (andC x.caps == 0) = false
          rw [ha]; simpa using h4
        · exact hL
        · exact hG _ R hR
        · exact hA R
  by_cases k3 : x.kind = 3
  · have e : x = { x with kind := 3 } := by rw [← k3]
    rw [e] at hx
    refine alone_fin hx (run_resume es x conn now) fun R hR => ⟨?_, ?_⟩ <;> intro q hq <;> simp only [List.mem_cons, List.not_mem_nil, or_false] at hq
    · rcases hq with rfl | rfl
      · exact hG _ R hR
      · exact hA R
    · rcases hq with rfl | rfl | rfl | rfl | rfl | rfl
      · exact hD
      · exact hn
      · exact hL
      · exact hL
      · exact hG _ R hR
      · exact hA R
  · have b6 : (x.kind == 6) = false := by simpa using k6
    have b1 : (x.kind == 1) = false := by simpa using k1
    have b3 : (x.kind == 3) = false := by simpa using k3
    refine alone_fin hx (run_other es x conn now) fun R hR => ⟨?_, ?_⟩ <;> intro q hq <;> simp only [List.mem_cons, List.not_mem_nil, or_false] at hq
    · rcases hq with rfl | rfl
      · exact hG _ R hR
      · exact hA R
    · rcases hq with rfl | rfl | rfl | rfl | rfl | rfl | rfl | rfl | rfl | rfl | rfl | rfl | rfl
      · exact b3
      · exact b1
      · exact b6
      · exact hD
      · exact hn
      · exact b1
      · exact hL
      · exact b3
      · exact b1
      · exact b6
      · exact hL
      · exact hG _ R hR
      · exact hA R
end Go.Proofs.Ytgaaonbjfhklbaa

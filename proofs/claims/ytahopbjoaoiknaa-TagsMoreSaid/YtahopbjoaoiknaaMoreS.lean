/- lodestarlaw03.TagsMore: its three regions of appends, from a world and back. -/
import Derived.Test.YtahopbjoaoiknaaMoreR
namespace Go.Proofs.Ytahopbjoaoiknaa
set_option linter.unusedVariables false
set_option linter.unusedSimpArgs false
open Go.RowKit

theorem VR.same_slice {R R' : Ren} {A : Option Addr} {n c : Nat} {v v' : Value} (h : VR R (.slice A n c) v) (hr : R.le R') (h' : VR R' (.slice A n c) v') : v' = v := by
  cases A with
  | none => exact Eq.trans h' (Eq.symm h)
  | some a =>
    obtain ⟨l, h1, rfl⟩ := h
    obtain ⟨l', h2, rfl⟩ := h'
    rw [hr _ _ h1] at h2
    cases h2
    rfl
theorem VR.same_chan {R R' : Ren} {r : Nat} {v v' : Value} (h : VR R (.chan (some r)) v) (hr : R.le R') (h' : VR R' (.chan (some r)) v') : v' = v := by
  obtain ⟨l, h1, rfl, _⟩ := h
  obtain ⟨l', h2, rfl, _⟩ := h'
  rw [hr _ _ h1] at h2
  cases h2
  rfl
theorem flatL_strs (l : List ByteArray) : flatL (l.map Value.string) = true := by
  induction l with
  | nil => rfl
  | cons x l ih => simpa [flatL, flat] using ih
theorem one_strs (l : List ByteArray) : (l.map Value.string).all (·.oneCell') = true := by
  rw [List.all_eq_true]
  intro x hx
  obtain ⟨s, -, rfl⟩ := List.mem_map.1 hx
  rfl
theorem infoS : (Try.prog.info? 9).map (fun i => i.size) = some 1 := by kernel_rfl
theorem strs_loose {R : Ren} {w : World} {id n : Nat} {cs : List Value} {v : Value} {l : List ByteArray} (h : SatObj Try.prog R w id (.loose cs 9)) (hcs : cs = l.map Value.string) (hn : n = l.length) (hv : VR R (.slice (some ⟨id, 0, none⟩) n n) v) : Strs w v l := by
  subst hcs hn
  obtain ⟨lo, hlo, hread⟩ := h.read rfl
  obtain ⟨l2, cur, i, n', h1, h2, h3, h4, h5, h6, h7, h8, h9⟩ := h
  rw [hlo] at h1
  cases h1
  obtain ⟨l3, h10, rfl⟩ := hv
  rw [hlo] at h10
  cases h10
  have hi := infoS
  rw [h5] at hi
  simp only [Option.map_some, Option.some.injEq] at hi
  rw [hi] at h7 h8
  simp at h7
  refine ⟨_, _, rfl, by omega, by omega, fun j hj => ⟨_, _, [.string l[j]], rfl, rfl, fun k hk => ?_, rfl⟩⟩
  obtain rfl : k = 0 := by omega
  obtain ⟨x, hx, hc⟩ := hread j (.string l[j]) (by simp [hj])
  have hx : x = .string l[j] := hx
  subst hx
  simpa using hc
def locO (A : Option Addr) : Loc := match A with
  | some a => ⟨a.block, a.off, 0, undef⟩
  | none => ⟨0, 0, 0, undef⟩
theorem kd_of {R : Ren} {w : World} {A : Option Addr} {cap id : Nat} {l : List ByteArray} (t : ByteArray) (h : Strs w (.slice A l.length cap) l) (hlen : l.length ≤ 300) (hr : R id = some (locO A)) :
    ∃ n o, Kd id cap (.slice (A.map fun a => ⟨id, 0, a.spot⟩) n cap) (l.map Value.string) o ∧ VR R (.slice (A.map fun a => ⟨id, 0, a.spot⟩) n cap) (.slice A l.length cap) ∧ (∀ x, o = some x → x.own = false ∧ SatObj Try.prog R w id x) ∧ ∀ p ∈ psO t o, p := by
  obtain ⟨A', cap', e, -, -, hrow⟩ := h.one
  cases e
  cases l with
  | nil =>
    refine ⟨0, none, ?_, ?_, fun x hx => (by cases hx), fun p hp => (by cases hp)⟩
    · cases A with
      | none => exact .inl ⟨rfl, rfl, rfl⟩
      | some a =>
        obtain ⟨b, off, sp⟩ := a
        cases sp with
        | none => exact .inr (.inl ⟨rfl, rfl, rfl⟩)
        | some sp => exact .inr (.inr (.inl ⟨sp, rfl, rfl, rfl⟩))
    · cases A with
      | none => exact rfl
      | some a => exact ⟨_, hr, by simp [locO]⟩
  | cons s l =>
    obtain ⟨b, off, rfl, h0⟩ := hrow 0 (by simp)
    refine ⟨((s :: l).map Value.string).length, some (.seg ((s :: l).map Value.string)), .inr (.inr (.inr ⟨rfl, rfl⟩)), ⟨_, hr, by simp [locO]⟩, fun x hx => ?_, fun p hp => ?_⟩
    · cases hx
      refine ⟨rfl, _, hr, rfl, cell_block h0, fun j x hj => ?_⟩
      rw [List.getElem?_map] at hj
      obtain ⟨y, hy, rfl⟩ := Option.map_eq_some_iff.1 hj
      obtain ⟨hj', rfl⟩ := List.getElem?_eq_some_iff.1 hy
      obtain ⟨b', off', e, hc⟩ := hrow j hj'
      cases e
      exact ⟨_, rfl, hc⟩
    · have hm : ((s :: l).map Value.string).length ≤ 300 := by simpa using hlen
      have h1 : ((s :: l).map Value.string).length ≠ 0 := by simp
      have h2 := one_strs (s :: l)
      generalize (s :: l).map Value.string = cs at *
      have hmax : 301 ≤ maxLen := by decide
      simp only [psO, List.mem_cons, List.not_mem_nil, or_false] at hp
      rcases hp with rfl | rfl
      · exact ⟨rfl, rfl, rfl, h1, h2, by omega, by omega⟩
      · exact ⟨rfl, rfl, rfl, rfl, rfl, rfl, by omega, by omega⟩
end Go.Proofs.Ytahopbjoaoiknaa

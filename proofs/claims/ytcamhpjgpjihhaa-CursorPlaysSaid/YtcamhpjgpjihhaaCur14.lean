/- Cursor: the statements' ops, told; the table's invariant where nothing is told. -/
import Derived.Test.YtcamhpjgpjihhaaCur13
namespace Go.Proofs.Ytcamhpjgpjihhaa
set_option linter.unusedVariables false
set_option linter.unusedSimpArgs false
open Go.RowKit

structure OpC where
  kind : Int
  owner : Int
  pin : Int
  vec : List Int
  al : List ByteArray
  an : List ByteArray
  no : List ByteArray
  n : Int
  page : Int
  hits : List (Int × Int)
  tell : Bool
  ahead : Int

def OpB (o : OpC) : Prop := (0 ≤ o.kind ∧ o.kind < 256) ∧ (0 ≤ o.owner ∧ o.owner < 256) ∧ (0 ≤ o.n ∧ o.n < 4294967296) ∧ (0 ≤ o.page ∧ o.page < 4294967296) ∧ (0 ≤ o.ahead ∧ o.ahead < 4294967296)
def OpR (w : World) (es : List Value) (o : OpC) : Prop :=
  ∃ (vA : Option Addr) (vc : Nat) (aA : Option Addr) (ac : Nat) (yA : Option Addr) (yc : Nat) (nA : Option Addr) (nc : Nat) (hA : Option Addr) (hc : Nat),
    es = [.int .u8 o.kind, .int .u8 o.owner, .int .i64 o.pin, .slice vA o.vec.length vc, .slice aA o.al.length ac, .slice yA o.an.length yc, .slice nA o.no.length nc, .int .u32 o.n, .int .u32 o.page, .slice hA o.hits.length hc, .bool o.tell, .int .u32 o.ahead] ∧
    Ints .i32 w (.slice vA o.vec.length vc) o.vec ∧ Strs w (.slice aA o.al.length ac) o.al ∧ Strs w (.slice yA o.an.length yc) o.an ∧ Strs w (.slice nA o.no.length nc) o.no ∧ Hits2 w (.slice hA o.hits.length hc) o.hits ∧ OpB o

theorem wf_u32 {x : Int} (h : (Lit.int .u32 x).wf = true) : 0 ≤ x ∧ x < 4294967296 := by
  simp [Lit.wf] at h
  have e0 : IntKind.u32.min = 0 := rfl
  have e1 : IntKind.u32.max = 4294967295 := rfl
  omega
theorem wf_u8 {x : Int} (h : (Lit.int .u8 x).wf = true) : 0 ≤ x ∧ x < 256 := by
  simp [Lit.wf] at h
  have e0 : IntKind.u8.min = 0 := rfl
  have e1 : IntKind.u8.max = 255 := rfl
  omega

def Ops (w : World) (v : Value) (l : List OpC) : Prop := RowN 12 OpR w v l
theorem came_ops {w : World} {v : Value} (h : Came Try.prog w 66 v) : ∃ l, Ops w v l := by
  obtain ⟨A, len, cap, rfl, hs⟩ := Came.slIn Try.underlying66 (by kernel_rfl : Try.prog.cellsOf 72 = 12) (by decide) h
  obtain ⟨l, rfl, hs⟩ := hs.rowN (R := OpR) (fun es hc => by
    obtain ⟨x0, x1, x2, x3A, x3n, x3c, y0A, y0n, y0c, y1A, y1n, y1c, y2A, y2n, y2c, x5, x6, x7A, x7n, x7c, x8, x9, rfl, h0, h1, h2, h3, h40, h41, h42, h5, h6, h7, h9⟩ := came72 hc
    obtain ⟨vec, rfl, hv, -⟩ := h3.ints Try.underlying21
    obtain ⟨al, rfl, ha⟩ := h40.strs Try.underlying9
    obtain ⟨an, rfl, hy⟩ := h41.strs Try.underlying9
    obtain ⟨no, rfl, hn⟩ := h42.strs Try.underlying9
    obtain ⟨hl, rfl, hh⟩ := came_hits h7
    exact ⟨⟨x0, x1, x2, vec, al, an, no, x5, x6, hl, x8, x9⟩, _, _, _, _, _, _, _, _, _, _, rfl, hv, ha, hy, hn, hh, wf_u8 h0, wf_u8 h1, wf_u32 h5, wf_u32 h6, wf_u32 h9⟩)
  exact ⟨l, hs⟩

theorem loadOp (ρ : Operand → Value) (dst : Option Tmp) (x : Operand) (ty : TypeId) (pos : String) (after : Array Edge) (gd : Option (Nat × Bool)) (w : World)
    (hp : isPtrA (ρ x) = true) (h : (rdAt w (adrOf (ρ x)) 12).isSome = true) : (execOp ρ ⟨dst, .load 72 x, ty, pos, after, gd⟩).run Try.prog w = .ok (.value (.agg ((rdAt w (adrOf (ρ x)) 12).getD #[]))) w :=
  ex_load_at (P := Try.prog) Try.underlying72 rfl (by kernel_rfl) ρ dst x ty pos after gd w hp h

theorem rdAt_rowN {w : World} {b off c : Nat} {es : List Value} (hl : es.length = c) (h : ∀ j, j < c → w.cell? ⟨b, off + j, none⟩ = es[j]?) : rdAt w ⟨b, off, none⟩ c = some es.toArray := by
  subst hl
  refine rdAt_of fun j hj => ?_
  rw [add_form]
  exact h j hj

/-- A row of one-cell elements of the law's own. -/
def OwnU (w : World) (B : Nat) (v : Value) (l : List Int) : Prop := OwnR 44 (fun n => .int .u64 n) w B v l
def OwnB (w : World) (B : Nat) (v : Value) (l : List Bool) : Prop := OwnR 4 (fun b => .bool b) w B v l
def nums (m : Nat) : List Int := (List.range m).map fun j : Nat => (j : Int) + 1
def isIn (l : CurL) (n : Int) : Bool := l.any fun p => p.1 == n

structure GoneInv (l : CurL) (m : Nat) (os : List Int) : Prop where
  rise : RiseC l
  len : l.length ≤ 8
  key : ∀ p ∈ l, 1 ≤ p.1 ∧ p.1 ≤ m
  own : ∀ p ∈ l, os[(p.1 - 1).toNat]? = some p.2.2.owner
  page : ∀ p ∈ l, p.2.2.page = 0
  used : ∀ p ∈ l, 0 ≤ p.2.2.used
  osl : os.length = m

theorem GoneInv.filter {l : CurL} {m : Nat} {os : List Int} (h : GoneInv l m os) (f : Int × Nat × Cur → Bool) : GoneInv (l.filter f) m os :=
  have hs : ∀ p ∈ l.filter f, p ∈ l := fun p hp => (List.mem_filter.1 hp).1
  ⟨List.Pairwise.sublist (List.filter_sublist.map _) h.rise, Nat.le_trans (List.length_filter_le _ _) h.len, fun p hp => h.key p (hs p hp), fun p hp => h.own p (hs p hp), fun p hp => h.page p (hs p hp), fun p hp => h.used p (hs p hp), h.osl⟩
theorem GoneInv.add {l : CurL} {m b : Nat} {os : List Int} {c : Cur} (h : GoneInv l m os) (hlen : l.length < 8) (hp : c.page = 0) (hu : 0 ≤ c.used) : GoneInv (l ++ [((m : Int) + 1, b, c)]) (m + 1) (os ++ [c.owner]) := by
  refine ⟨?_, by simp; omega, fun p hp' => ?_, fun p hp' => ?_, fun p hp' => ?_, fun p hp' => ?_, by simp [h.osl]⟩
  · unfold RiseC
    rw [List.map_append, List.pairwise_append]
    refine ⟨h.rise, by simp, fun x hx y hy => ?_⟩
    obtain ⟨q, hq, rfl⟩ := List.mem_map.1 hx
    simp at hy
    have := (h.key q hq).2
    omega
  · rcases List.mem_append.1 hp' with hp' | hp'
    · have := h.key p hp'
      omega
    · simp at hp'
      subst hp'
      simp only
      omega
  · rcases List.mem_append.1 hp' with hp' | hp'
    · have h1 := h.own p hp'
      have h2 := h.key p hp'
      rw [List.getElem?_append_left (by rw [h.osl]; omega)]
      exact h1
    · simp at hp'
      subst hp'
      simp only
      rw [List.getElem?_append_right (by rw [h.osl]; omega), h.osl]
      simp
  · rcases List.mem_append.1 hp' with hp' | hp'
    · exact h.page p hp'
    · simp at hp'
      subst hp'
      exact hp
  · rcases List.mem_append.1 hp' with hp' | hp'
    · exact h.used p hp'
    · simp at hp'
      subst hp'
      exact hu

theorem isIn_iff {l : CurL} {n : Int} : isIn l n = true ↔ ∃ p ∈ l, p.1 = n := by
  unfold isIn
  rw [List.any_eq_true]
  constructor
  · rintro ⟨p, hp, h⟩; exact ⟨p, hp, by simpa using h⟩
  · rintro ⟨p, hp, h⟩; exact ⟨p, hp, by simpa using h⟩
theorem isIn_filter {l : CurL} {n : Int} {f : Int × Nat × Cur → Bool} (h : isIn l n = false) : isIn (l.filter f) n = false := by
  cases hh : isIn (l.filter f) n
  · rfl
  · obtain ⟨p, hp, e⟩ := isIn_iff.1 hh
    have := isIn_iff.2 ⟨p, (List.mem_filter.1 hp).1, e⟩
    rw [h] at this
    cases this
theorem isIn_add {l : CurL} {n m : Int} {b : Nat} {c : Cur} (h : isIn l n = false) (hne : n ≠ m) : isIn (l ++ [(m, b, c)]) n = false := by
  cases hh : isIn (l ++ [(m, b, c)]) n
  · rfl
  · obtain ⟨p, hp, e⟩ := isIn_iff.1 hh
    rcases List.mem_append.1 hp with hp | hp
    · have := isIn_iff.2 ⟨p, hp, e⟩
      rw [h] at this
      cases this
    · simp at hp
      subst hp
      exact absurd e.symm hne

/-- How many of the first k numbers are there. -/
def cntIn (l : CurL) (k : Nat) : Nat := ((List.range k).filter fun j : Nat => isIn l ((j : Int) + 1)).length
theorem cntIn_succ (l : CurL) (k : Nat) : cntIn l (k + 1) = cntIn l k + if isIn l ((k : Int) + 1) = true then 1 else 0 := by
  unfold cntIn
  rw [List.range_succ, List.filter_append, List.length_append]
  congr 1
  by_cases h : isIn l ((k : Int) + 1) = true <;> simp [h]

theorem rise_extI : ∀ {a b : List Int}, a.Pairwise (· < ·) → b.Pairwise (· < ·) → (∀ x, x ∈ a ↔ x ∈ b) → a.length = b.length := by
  intro a b ha hb h
  have h1 : a.Nodup := List.Pairwise.imp (fun h => by omega) ha
  have h2 : b.Nodup := List.Pairwise.imp (fun h => by omega) hb
  exact ((List.perm_ext_iff_of_nodup h1 h2).2 h).length_eq

theorem cntIn_all {l : CurL} {m : Nat} {os : List Int} (h : GoneInv l m os) : cntIn l m = l.length := by
  have h1 : (((List.range m).filter fun j : Nat => isIn l ((j : Int) + 1)).map fun j : Nat => (j : Int) + 1).length = (l.map (·.1)).length := by
    refine rise_extI ?_ h.rise fun x => ?_
    · rw [List.pairwise_map]
      exact List.Pairwise.imp (fun h => by omega) (List.Pairwise.sublist List.filter_sublist List.pairwise_lt_range)
    · constructor
      · intro hx
        obtain ⟨j, hj, rfl⟩ := List.mem_map.1 hx
        obtain ⟨p, hp, e⟩ := isIn_iff.1 (List.mem_filter.1 hj).2
        exact List.mem_map.2 ⟨p, hp, e⟩
      · intro hx
        obtain ⟨p, hp, rfl⟩ := List.mem_map.1 hx
        have hk := h.key p hp
        refine List.mem_map.2 ⟨(p.1 - 1).toNat, List.mem_filter.2 ⟨List.mem_range.2 (by omega), isIn_iff.2 ⟨p, hp, by omega⟩⟩, by omega⟩
  simpa [cntIn] using h1
end Go.Proofs.Ytcamhpjgpjihhaa

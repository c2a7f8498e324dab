/- An evaluator over named blocks: literals, maps. Nothing of the program stands here. -/
import Derived.Test.YtahopbjoaoiknaaEv5
import Derived.Great.BuildSlice
namespace Go.Proofs.Ytahopbjoaoiknaa
set_option linter.unusedVariables false
set_option linter.unusedSimpArgs false
open Go.RowKit

theorem VRp_map {R : Ren} {ρ : Operand → Value} {a : Act} : ∀ {parts : List (Nat × Operand)}, (∀ p ∈ parts, VR R (ρ p.2) (a.eval p.2)) → VRp R (parts.map fun p => (p.1, ρ p.2)) (parts.map fun p => (p.1, a.eval p.2))
  | [], _ => rfl
  | p :: ps, h => ⟨a.eval p.2, _, h p (by simp), VRp_map fun q hq => h q (List.mem_cons_of_mem _ hq), rfl⟩

theorem flat_cells {z : Value} (h : flat z = true) : flatL z.cells.toList = true := by
  cases z with
  | agg a => cases a; simpa [flat, flatA, Value.cells] using h
  | _ => simp [Value.cells, flatL, h]
theorem flatL_get : ∀ {l : List Value} {j : Nat} {x : Value}, flatL l = true → l[j]? = some x → flat x = true
  | [], j, x, _, e => by simp at e
  | y :: ys, 0, x, h, e => by
    simp only [flatL, Bool.and_eq_true] at h
    simp at e
    rw [← e]; exact h.1
  | y :: ys, j + 1, x, h, e => by
    simp only [flatL, Bool.and_eq_true] at h
    simp at e
    exact flatL_get h.2 e

def zeroRow (z : Value) (n : Nat) : List Value := (List.range n).map fun i => z.cells.toList.getD (i % z.cells.toList.length) default
theorem zeroRow_eq (z : Value) (n : Nat) : (Array.range n).map (fun i => z.cells[i % z.cells.size]!) = (zeroRow z n).toArray := by
  apply Array.ext'
  simp [zeroRow, List.getD, Array.getElem!_eq_getD]
theorem zeroRow_rel {R : Ren} {z : Value} (h : flat z = true) (n : Nat) : VRs R (zeroRow z n) (zeroRow z n) := by
  refine VRs.of_get rfl fun j x hx => ⟨x, hx, (VR.flat ?_).2 rfl⟩
  unfold zeroRow at hx
  rw [List.getElem?_map] at hx
  cases hj : (List.range n)[j]? with
  | none => rw [hj] at hx; cases hx
  | some i =>
    rw [hj] at hx
    simp only [Option.map_some, Option.some.injEq] at hx
    subst hx
    cases hg : z.cells.toList[i % z.cells.toList.length]? with
    | none => simp only [List.getD, hg, Option.getD_none]; rfl
    | some y =>
      simp only [List.getD, hg, Option.getD_some]
      exact flatL_get (flat_cells h) hg
theorem zeroRow_len (z : Value) (n : Nat) : (zeroRow z n).length = n := by simp [zeroRow]

/-- Where a struct's or an array's parts lie. -/
def placeOf (P : Program) (t : TypeId) : Option (Nat → Option (Nat × Nat)) :=
  match P.underlying t with
  | some (.struct fields) => (fields.toList.mapM (fun f => (P.info? f.type).map fun i => (f.offset, i.size))).map fun pl => fun i => pl[i]?
  | some (.array _ e) => (P.info? e).map fun ie => fun i => some (i * ie.size, ie.size)
  | _ => none

def evBuild (P : Program) (t : TypeId) (parts : List (Nat × Value)) (s : St) : Option (Value × St) :=
  match P.info? t with
  | none => none
  | some it => match it.zero with
    | none => none
    | some z => match flat z with
      | false => none
      | true => match placeOf P t with
        | none => none
        | some pl => match fillL pl z.cells.toList parts with
          | none => none
          | some cs => some (.agg ⟨cs⟩, s)

def evBuildSlice (P : Program) (t : TypeId) (len : Nat) (parts : List (Nat × Value)) (s : St) : Option (Value × St) :=
  match P.underlying t with
  | some (.slice e) => match P.info? e with
    | none => none
    | some ie => match ie.zero with
      | none => none
      | some z => match flat z && Nat.ble (len * ie.size) 16777216 && Nat.blt 0 (len * ie.size) with
        | false => none
        | true => match fillL (fun i => some (i * ie.size, ie.size)) (zeroRow z (len * ie.size)) parts with
          | none => none
          | some cs => match s.mk' (.cells cs e) with
            | none => none
            | some (id, s') => some (.slice (some ⟨id, 0, none⟩) len len, s')
  | _ => none

section
variable {P : Program} {G : Gd}
theorem evBuild_ok {dst : Option Tmp} {t ty : TypeId} {parts : Array (Nat × Operand)} {pos : String} {after : Array Edge} {gd : Option (Nat × Bool)} {ρ : Operand → Value} {s s' : St} {v : Value}
    (h : evBuild P t (parts.toList.map fun p => (p.1, ρ p.2)) s = some (v, s')) : OpS P G ⟨dst, .build t parts, ty, pos, after, gd⟩ ρ s v s' := by
  unfold evBuild at h
  split at h
  · cases h
  rename_i it hit
  split at h
  · cases h
  rename_i z hz
  split at h
  · cases h
  rename_i hf
  split at h
  · cases h
  rename_i pl hpl
  split at h
  · cases h
  rename_i cs hcs
  simp only [Option.some.injEq, Prod.mk.injEq] at h
  obtain ⟨rfl, rfl⟩ := h
  refine .pure fun R w a hop => ?_
  have hp : VRp R (parts.toList.map fun p => (p.1, ρ p.2)) (parts.toList.map fun p => (p.1, a.eval p.2)) := VRp_map fun p hp => hop p.2 (by
    simp only [Op.operands, List.mem_toArray, List.mem_map]
    exact ⟨p, hp, rfl⟩)
  have hzz : VR R z z := (VR.flat hf).2 rfl
  obtain ⟨r', h1, h2⟩ := fillL_ok hp hzz.cells hcs
  have hb : P.built t (parts.toList.map fun p => (p.1, a.eval p.2)) = some ⟨r'⟩ := by
    unfold placeOf at hpl
    unfold Program.built
    split at hpl
    · rename_i fields hu
      cases hm : fields.toList.mapM (fun f => (P.info? f.type).map fun i => (f.offset, i.size)) with
      | none => rw [hm] at hpl; cases hpl
      | some places =>
        rw [hm] at hpl
        simp only [Option.map_some, Option.some.injEq] at hpl
        subst hpl
        simp only [hit, hu, hz, hm]
        simpa using h1
    · rename_i n e hu
      cases hi : P.info? e with
      | none => rw [hi] at hpl; cases hpl
      | some ie =>
        rw [hi] at hpl
        simp only [Option.map_some, Option.some.injEq] at hpl
        subst hpl
        simp only [hit, hu, hz, hi]
        simpa using h1
    · cases hpl
  have hrun := run_build (P := P) w t (parts.map fun (i, x) => (i, a.eval x)) ⟨r'⟩ (by simpa using hb)
  refine ⟨.agg ⟨r'⟩, ?_, ⟨_, ⟨_, h2, rfl⟩, rfl⟩⟩
  simp only [execOp, Sem.run_bind, hrun, Result.andThen_ok]
  rfl
theorem evBuildSlice_ok {dst : Option Tmp} {t ty : TypeId} {len : Nat} {parts : Array (Nat × Operand)} {pos : String} {after : Array Edge} {gd : Option (Nat × Bool)} {ρ : Operand → Value} {s s' : St} {v : Value}
    (h : evBuildSlice P t len (parts.toList.map fun p => (p.1, ρ p.2)) s = some (v, s')) : OpS P G ⟨dst, .buildSlice t len parts, ty, pos, after, gd⟩ ρ s v s' := by
  unfold evBuildSlice at h
  split at h
  · rename_i e hu
    split at h
    · cases h
    rename_i ie hie
    split at h
    · cases h
    rename_i z hz
    split at h
    · cases h
    rename_i hb
    simp only [Bool.and_eq_true] at hb
    obtain ⟨⟨hf, hb1⟩, hb2⟩ := hb
    have hb1 := Nat.le_of_ble_eq_true hb1
    have hb2 : 0 < len * ie.size := Nat.le_of_ble_eq_true hb2
    split at h
    · cases h
    rename_i cs hcs
    split at h
    · cases h
    rename_i id s1 hm
    simp only [Option.some.injEq, Prod.mk.injEq] at h
    obtain ⟨rfl, rfl⟩ := h
    refine ⟨ARun.mk' hm, fun F R w a hrd hwr hS _ hop K Q hK => ?_⟩
    have hp : VRp R (parts.toList.map fun p => (p.1, ρ p.2)) (parts.toList.map fun p => (p.1, a.eval p.2)) := VRp_map fun p hp => hop p.2 (by
      simp only [Op.operands, List.mem_toArray, List.mem_map]
      exact ⟨p, hp, rfl⟩)
    obtain ⟨r', h1, h2⟩ := fillL_ok hp (zeroRow_rel hf _) hcs
    have hrun := run_buildSlice (P := P) w t e len (parts.map fun (i, x) => (i, a.eval x)) ⟨r'⟩ ie z hu hie hz (by omega) (by omega) (by
      rw [zeroRow_eq]
      simpa using h1)
    obtain ⟨R', g1, g2, g3⟩ := new_cells hm hwr hS h2
    refine wp_value (v := .slice (some ⟨w.heap.size, 0, none⟩) len len) (w' := w.alloc (.cells ⟨r'⟩ e)) ?_ (hK R' _ _ ⟨_, g1, by simp⟩ g2 g3)
    simp only [execOp, Sem.run_bind, hrun, Result.andThen_ok]
    rfl
  · cases h
end
end Go.Proofs.Ytahopbjoaoiknaa

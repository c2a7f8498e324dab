/- An evaluator over named blocks: slices.Sorted(maps.Keys(m)) at keys of a whole-number kind. Nothing of the program stands here. -/
import Derived.Test.YtigdbooadelciaaGreatEv11
namespace Go.Proofs.YtigdbooadelciaaGreat
set_option linter.unusedVariables false
set_option linter.unusedSimpArgs false
open Go.RowKit

def insZ (x : Int) : List Int → List Int
  | [] => [x]
  | y :: l => if x ≤ y then x :: y :: l else y :: insZ x l
def sortZ : List Int → List Int
  | [] => []
  | x :: l => insZ x (sortZ l)
theorem insZ_perm (x : Int) : ∀ l, (insZ x l).Perm (x :: l)
  | [] => .refl _
  | y :: l => by
    unfold insZ
    split
    · exact .refl _
    · exact (List.Perm.cons y (insZ_perm x l)).trans (.swap x y l)
theorem sortZ_perm : ∀ l, (sortZ l).Perm l
  | [] => .refl _
  | x :: l => (insZ_perm x _).trans (.cons x (sortZ_perm l))
theorem insZ_sorted (x : Int) : ∀ l, l.Pairwise (· ≤ ·) → (insZ x l).Pairwise (· ≤ ·)
  | [], _ => List.pairwise_singleton _ _
  | y :: l, h => by
    unfold insZ
    rw [List.pairwise_cons] at h
    split
    · rename_i hxy
      refine List.pairwise_cons.2 ⟨fun z hz => ?_, List.pairwise_cons.2 h⟩
      rcases List.mem_cons.1 hz with rfl | hz
      · exact hxy
      · exact Int.le_trans hxy (h.1 z hz)
    · rename_i hxy
      refine List.pairwise_cons.2 ⟨fun z hz => ?_, insZ_sorted x l h.2⟩
      rcases List.mem_cons.1 ((insZ_perm x l).mem_iff.1 hz) with rfl | hz
      · omega
      · exact h.1 z hz
theorem sortZ_sorted : ∀ l, (sortZ l).Pairwise (· ≤ ·)
  | [] => .nil
  | x :: l => insZ_sorted x _ (sortZ_sorted l)

def evSorted (k : IntKind) (tK : TypeId) (g : FuncId) (args : List Value) (s : St) : Option (Value × St) :=
  match args with
  | [.func (.func g') ⟨[]⟩ ⟨[.pointer (some ⟨id, 0, none⟩)]⟩] => match Nat.beq g' g with
    | false => none
    | true => match s.h.get id with
      | some (.cells [.map (some mid)] _) => match s.h.get mid with
        | some (.mapI k' m) => match decide (k' = k) && Nat.ble m.length 12 with
          | false => none
          | true => match sortZ (m.map (·.1)) with
            | [] => some (.slice none 0 0, (s.look id).look mid)
            | z :: zs => match ((s.look id).look mid).mk' (.loose ((z :: zs).map (Value.int k)) tK) with
              | none => none
              | some (nid, s') => some (.slice (some ⟨nid, 0, none⟩) (zs.length + 1) (zs.length + 1), s')
        | _ => none
      | _ => none
  | _ => none

section
variable {P : Program} {G : Gd} {F : Nat → Prop} {R : Ren} {w : World}

/-- What leaves all that was there as it was. -/
theorem kp_step {h : Tr AObj} {w' : World} (hS : Sat P G F R h w) (hk : Kp (fun _ => False) w w') (wr : List Nat) : Sat P G F R h w' ∧ Step R w h R w' wr :=
  ⟨⟨fun id o hf hg => (hS.obj id o hf hg).keep (.refl R) hk.size fun l _ hlt => hk.block _ hlt (fun e => e), hS.dom, hS.inj, Below.trans hS.bas (hk.below.mono hS.siz), hS.low, Nat.le_trans hS.siz hk.size⟩, .refl R, fun id l h1 h2 => (by rw [h1] at h2; cases h2), hk.mono fun _ _ e => e.elim⟩

/-- A block that a call made, under a new name. -/
theorem Sat.newAt {h : Tr AObj} {w' : World} (hS : Sat P G F R h w) {c : Nat} {o : AObj} {l0 : Loc} (hk : Kp (fun _ => False) w w') (hF : F (2 * c)) (hn : h.get (2 * c) = none) (wr : List Nat) (hb : w.heap.size ≤ l0.blk)
    (ho : SatObj P (R.upd (2 * c) l0) w' (2 * c) o) :
    R (2 * c) = none ∧ Sat P G F (R.upd (2 * c) l0) (h.set (2 * c) o) w' ∧ Step R w h (R.upd (2 * c) l0) w' (2 * c :: wr) := by
  obtain ⟨hr, h1, h2⟩ := hS.phantom (l := l0) hF hn hb wr
  have hle := Ren.upd_le (l := l0) hr
  have hblk : ∀ id o' l, F id → h.get id = some o' → o'.live = true → R id = some l → l.blk < w.heap.size := fun id o' l hf hg hlv hl => (hS.obj id o' hf hg).lt' hl hlv
  refine ⟨hr, ⟨fun id o' hf hg => ?_, fun id l hf hl => ?_, ?_, Below.trans hS.bas (hk.below.mono hS.siz), fun id o1 l1 hf hg hw hl => ?_, Nat.le_trans hS.siz hk.size⟩, ⟨hle, h2.newb, hk.mono fun _ _ e => e.elim⟩⟩
  · rw [Tr.get_set] at hg
    by_cases e : 2 * c = id
    · rw [if_pos e] at hg
      cases hg
      rw [← e]
      exact ho
    · rw [if_neg e] at hg
      exact (hS.obj id o' hf hg).keep hle hk.size fun l _ hlt => hk.block _ hlt (fun e => e)
  · rw [Tr.get_set]
    by_cases e : 2 * c = id
    · simp [e]
    · rw [if_neg e]
      rw [Ren.upd_ne _ _ (Ne.symm e)] at hl
      exact hS.dom id l hf hl
  · intro id id' o1 o2 l1 l2 hf hf' hne hg1 hg2 hv1 hv2 hw hl1 hl2
    rw [Tr.get_set] at hg1 hg2
    by_cases e1 : 2 * c = id
    · by_cases e2 : 2 * c = id'
      · exact absurd (e1.symm.trans e2) hne
      · rw [if_neg e2] at hg2
        rw [Ren.upd_ne _ _ (Ne.symm e2)] at hl2
        rw [← e1, Ren.upd_same] at hl1
        cases hl1
        have := hblk id' o2 l2 hf' hg2 hv2 hl2
        omega
    · rw [if_neg e1] at hg1
      rw [Ren.upd_ne _ _ (Ne.symm e1)] at hl1
      by_cases e2 : 2 * c = id'
      · rw [← e2, Ren.upd_same] at hl2
        cases hl2
        have := hblk id o1 l1 hf hg1 hv1 hl1
        omega
      · rw [if_neg e2] at hg2
        rw [Ren.upd_ne _ _ (Ne.symm e2)] at hl2
        exact hS.inj id id' o1 o2 l1 l2 hf hf' hne hg1 hg2 hv1 hv2 hw hl1 hl2
  · rw [Tr.get_set] at hg
    by_cases e : 2 * c = id
    · rw [← e, Ren.upd_same] at hl
      cases hl
      exact Nat.le_trans hS.siz hb
    · rw [if_neg e] at hg
      rw [Ren.upd_ne _ _ (Ne.symm e)] at hl
      exact hS.low id o1 l1 hf hg hw hl

theorem VRs_ints {R : Ren} (k : IntKind) : ∀ l : List Int, VRs R (l.map (Value.int k)) (l.map (Value.int k))
  | [] => rfl
  | x :: l => ⟨_, _, rfl, VRs_ints k l, rfl⟩

theorem evSorted_ok {k : IntKind} {tK : TypeId} {i : TypeInfo} {f g : FuncId} (hi : P.info? tK = some i) (h1 : i.size = 1)
    (hC : ∀ (Bm b : Nat) (m : List (Int × Value)), m.length ≤ 12 → ∀ w : World, Bm < w.heap.size → w.cell? ⟨Bm, 0, none⟩ = some (.map (some b)) → MapAt w b (Value.int k) m → ∀ zs : List Int, zs.Perm (m.map (·.1)) → zs.Pairwise (· ≤ ·) →
      Calls P f #[.func (.func g) #[] #[.pointer (some ⟨Bm, 0, none⟩)]] w fun e w' => ∃ v, e = .returned v ∧ w'.ownsRow w.heap.size tK 1 v zs.length (zs.map (Value.int k)) ∧ (zs = [] → v = .slice none 0 0) ∧ Kp (fun _ => False) w w')
    {args : List Value} {s s' : St} {v : Value} (h : evSorted k tK g args s = some (v, s')) : CallS P G f args s v s' := by
  unfold evSorted at h
  split at h <;> try cases h
  rename_i g' id
  split at h <;> try cases h
  rename_i hg
  have hg := Nat.eq_of_beq_eq_true hg
  subst hg
  split at h <;> try cases h
  rename_i mid t ho
  split at h <;> try cases h
  rename_i k' m hm
  split at h <;> try cases h
  rename_i hb
  rw [Bool.and_eq_true] at hb
  obtain ⟨hb1, hb2⟩ := hb
  obtain rfl : k' = k := of_decide_eq_true hb1
  have hb2 := Nat.le_of_ble_eq_true hb2
  have key : ∀ (F : Nat → Prop) (R : Ren) (w : World) (avs : List Value), F id → F mid → Sat P G F R s.h w → VRs R [.func (.func g') ⟨[]⟩ ⟨[.pointer (some ⟨id, 0, none⟩)]⟩] avs →
      Calls P f ⟨avs⟩ w fun e w' => ∃ v, e = .returned v ∧ w'.ownsRow w.heap.size tK 1 v (sortZ (m.map (·.1))).length ((sortZ (m.map (·.1))).map (Value.int k')) ∧ (sortZ (m.map (·.1)) = [] → v = .slice none 0 0) ∧ Kp (fun _ => False) w w' := by
    intro F R w avs hF1 hF2 hS ha
    obtain ⟨y, ys, ⟨fl, cl, ⟨fl', g1, rfl⟩, ⟨cl', g2, rfl⟩, rfl⟩, k2, rfl⟩ := ha
    simp only [VRs] at k2 g1
    subst k2 g1
    obtain ⟨y2, ys2, ⟨lb, hlb, rfl⟩, k3, rfl⟩ := g2
    simp only [VRs] at k3
    subst k3
    obtain ⟨l, cur, q1, q2, q3, q4, q5⟩ := hS.obj id _ hF1 ho
    simp only at hlb
    rw [q1] at hlb
    obtain rfl := Option.some.inj hlb
    obtain ⟨y4, ys4, ⟨lm, hlm, rfl⟩, k5, rfl⟩ := q4
    simp only [VRs] at k5
    subst k5
    obtain ⟨l2, m', r1, r2, r3⟩ := hS.obj mid _ hF2 hm
    rw [r1] at hlm
    obtain rfl := Option.some.inj hlm
    have hc := hC l.blk l2.blk m' (by have := congrArg List.length r2.1; simp at this; omega) w (Array.getElem?_eq_some_iff.1 q5).1 (by simp [World.cell?, q5]) r3 (sortZ (m.map (·.1))) (by rw [r2.1]; exact sortZ_perm _) (sortZ_sorted _)
    rw [q2]
    exact hc
  split at h
  · rename_i hz
    simp only [Option.some.injEq, Prod.mk.injEq] at h
    obtain ⟨rfl, rfl⟩ := h
    refine ⟨(ARun.look s id).trans (ARun.look _ mid), fun F R w avs hrd hwr hS hob ha => ?_⟩
    refine (key F R w avs (hrd id (by simp [St.look])) (hrd mid (by simp [St.look])) hS ha).mono ?_
    rintro e w' ⟨v, rfl, _, h2, h3⟩
    obtain ⟨g1, g2⟩ := kp_step hS h3 s.wr
    exact ⟨R, _, rfl, by rw [h2 hz]; rfl, g1, g2⟩
  · rename_i z zs hz
    split at h <;> try cases h
    rename_i nid s1 hmk
    refine ⟨((ARun.look s id).trans (ARun.look _ mid)).trans (ARun.mk' hmk), fun F R w avs hrd hwr hS hob ha => ?_⟩
    have hrd1 : ∀ k ∈ ((s.look id).look mid).rd, F k := fun k hk => hrd k ((ARun.mk' hmk).rd k hk)
    refine (key F R w avs (hrd1 id (by simp [St.look])) (hrd1 mid (by simp [St.look])) hS ha).mono ?_
    rintro e w' ⟨v, rfl, h2, -, h3⟩
    rw [hz] at h2
    obtain ⟨rfl, hn, rfl⟩ := St.mk'_eq hmk
    obtain ⟨_, ⟨_, h0⟩ | ⟨gb, cap, cur, rfl, hbg, hgb, hc1, hc2, hcs, htk⟩⟩ := h2
    · simp at h0
    simp only [List.length_cons, Nat.mul_one] at hc1 htk
    have hcl : cur.toList.length = cap := by simpa using hcs
    obtain ⟨p1, p2, p3⟩ := hS.newAt (c := s.c) (o := .loose ((z :: zs).map (Value.int k')) tK) (l0 := ⟨gb, 0, cap - (zs.length + 1), undef⟩) h3 (hwr _ (by simp [St.look])) hn s.wr hbg
      ⟨⟨gb, 0, cap - (zs.length + 1), undef⟩, cur.toList, i, zs.length + 1, Ren.upd_same _ _ _, rfl, by
        rw [List.length_map, List.length_cons, htk]
        exact VRs_ints k' _, hgb, hi, by omega, by rw [h1]; simp, by rw [h1, hcl]; simp only; omega, by simp only; omega⟩
    refine ⟨_, _, rfl, ⟨_, Ren.upd_same _ _ _, ?_⟩, p2, p3⟩
    simp only
    congr 1
    omega
end
end Go.Proofs.YtigdbooadelciaaGreat

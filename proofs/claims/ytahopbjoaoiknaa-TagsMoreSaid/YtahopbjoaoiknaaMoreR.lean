/- lodestarlaw03.TagsMore: what its three regions of appends do, over named blocks. -/
import Derived.Test.YtahopbjoaoiknaaEvV
import Derived.Test.YtahopbjoaoiknaaWalkTagsMatch
namespace Go.Proofs.Ytahopbjoaoiknaa
set_option linter.unusedVariables false
set_option linter.unusedSimpArgs false
open Go.RowKit

def regsIn : Code → List (Nat × Array Oper × Bool)
  | .region id ops d => [(id, ops, d)]
  | .seq x y => regsIn x ++ regsIn y
  | _ => []
noncomputable def bodyM : Code := match Try.f3.body with
  | some c => c
  | none => .skip
noncomputable def regs57 : List (Nat × Array Oper × Bool) := (regsIn bodyM).filter fun p => Nat.ble 5 p.1 && Nat.ble p.1 7

def argsM (XL XA Y XN : Value) (t : ByteArray) : List Value :=
  [.agg #[XA, Y, XN], XL, .string t, .pointer (some ⟨1, 0, none⟩), undef, undef, .bool false, undef, undef, undef, .bool true, .bool false, XL, .bool false, .bool false, .pointer (some ⟨1, 0, none⟩), XA, .bool false, .bool false, .bool false,
   .pointer (some ⟨1, 1, none⟩), Y, .bool false, .bool false, .bool false, .pointer (some ⟨1, 2, none⟩), XN, .bool false, .bool false] ++ List.replicate 48 undef
def setO (h : Tr AObj) (i : Nat) : Option AObj → Tr AObj
  | none => h
  | some o => h.set i o
def hM (XA Y XN : Value) (oL oA oN : Option AObj) : Tr AObj := setO (setO (setO (Tr.set .nil 1 (.seg [XA, Y, XN])) 3 oA) 5 oN) 7 oL
def psO (t : ByteArray) : Option AObj → List Prop
  | some (.seg cs) => [segP 0 0 cs.length cs 16, fullP 9 9 cs.length cs.length 1 1 cs (.string t) 16]
  | _ => []
/-- What a slice of strings is over names: nil, empty, or a row. -/
def Kd (id cap : Nat) (X : Value) (cs : List Value) (o : Option AObj) : Prop :=
  (X = .slice none 0 cap ∧ cs = [] ∧ o = none) ∨ (X = .slice (some ⟨id, 0, none⟩) 0 cap ∧ cs = [] ∧ o = none) ∨ (∃ sp, X = .slice (some ⟨id, 0, some sp⟩) 0 cap ∧ cs = [] ∧ o = none) ∨ (X = .slice (some ⟨id, 0, none⟩) cs.length cap ∧ o = some (.seg cs))

abbrev ObsR := Nat × Nat × List Value × TypeId
def obsM (r : Option (Tr Value × St × List Prop)) : Option (Value × ObsR × List Value × TypeId × Value × TypeId × ObsR × ObsR × Nat × List Prop) :=
  match r with
  | none => none
  | some (tm, s, ps) => match tm.get 1 with
    | none => none
    | some x1 => match tm.get 7 with
      | some (.slice (some ⟨i7, 0, none⟩) n7 c7) => match tm.get 8 with
        | some (.pointer (some ⟨i8, 0, none⟩)) => match tm.get 9 with
          | some (.pointer (some ⟨i9, 0, none⟩)) => match s.h.get i7 with
            | some (.loose r7 t7) => match s.h.get i8 with
              | some (.cells g8 t8) => match s.h.get i9 with
                | some (.cells [.slice (some ⟨iA, 0, none⟩) nA cA, y9, .slice (some ⟨iN, 0, none⟩) nN cN] t9) => match s.h.get iA with
                  | some (.loose rA tA) => match s.h.get iN with
                    | some (.loose rN tN) => some (x1, (n7, c7, r7, t7), g8, t8, y9, t9, (nA, cA, rA, tA), (nN, cN, rN, tN), s.ob.length, ps)
                    | _ => none
                  | _ => none
                | _ => none
              | _ => none
            | _ => none
          | _ => none
        | _ => none
      | _ => none

noncomputable def runM (XL XA Y XN : Value) (t : ByteArray) (oL oA oN : Option AObj) : Option (Tr Value × St × List Prop) :=
  regsA Try.prog [] (fun _ _ _ => none) 77 regs57 (ofL (argsM XL XA Y XN t) 0 .nil) ⟨hM XA Y XN oL oA oN, 0, [], [], [], []⟩
def wantM (XL XA Y : Value) (t : ByteArray) (L A N : List Value) (oL oA oN : Option AObj) : Option (Value × ObsR × List Value × TypeId × Value × TypeId × ObsR × ObsR × Nat × List Prop) :=
  some (XL, (L.length + 1, L.length + 1, L ++ [.string t], 9), [XA, Y, .slice none 0 0], 24, Y, 24, (A.length + 1, A.length + 1, A ++ [.string t], 9), (N.length + 1, N.length + 1, N ++ [.string t], 9), 0, psO t oL ++ (psO t oA ++ psO t oN))

set_option maxRecDepth 100000 in
set_option maxHeartbeats 2000000 in
theorem run_all {cap ac nc : Nat} {L A N : List Value} {XL XA XN : Value} {oL oA oN : Option AObj} (t : ByteArray) (hl : Kd 7 cap XL L oL) (ha : Kd 3 ac XA A oA) (hn : Kd 5 nc XN N oN) :
    obsM (runM XL XA (.chan (some 9)) XN t oL oA oN) = wantM XL XA (.chan (some 9)) t L A N oL oA oN := by
  rcases hl with ⟨rfl, rfl, rfl⟩ | ⟨rfl, rfl, rfl⟩ | ⟨_, rfl, rfl, rfl⟩ | ⟨rfl, rfl⟩ <;>
  rcases ha with ⟨rfl, rfl, rfl⟩ | ⟨rfl, rfl, rfl⟩ | ⟨_, rfl, rfl, rfl⟩ | ⟨rfl, rfl⟩ <;>
  rcases hn with ⟨rfl, rfl, rfl⟩ | ⟨rfl, rfl, rfl⟩ | ⟨_, rfl, rfl, rfl⟩ | ⟨rfl, rfl⟩ <;>
  kernel_rfl

structure RunM (t : ByteArray) (L A N : List Value) (XL XA Y : Value) (oL oA oN : Option AObj) (tm : Tr Value) (s : St) : Prop where
  t1 : tm.get 1 = some XL
  r7 : ∃ i, tm.get 7 = some (.slice (some ⟨i, 0, none⟩) (L.length + 1) (L.length + 1)) ∧ s.h.get i = some (.loose (L ++ [.string t]) 9)
  r8 : ∃ i, tm.get 8 = some (.pointer (some ⟨i, 0, none⟩)) ∧ s.h.get i = some (.cells [XA, Y, .slice none 0 0] 24)
  r9 : ∃ i j k, tm.get 9 = some (.pointer (some ⟨i, 0, none⟩)) ∧ s.h.get i = some (.cells [.slice (some ⟨j, 0, none⟩) (A.length + 1) (A.length + 1), Y, .slice (some ⟨k, 0, none⟩) (N.length + 1) (N.length + 1)] 24) ∧
    s.h.get j = some (.loose (A ++ [.string t]) 9) ∧ s.h.get k = some (.loose (N ++ [.string t]) 9)
  ob : s.ob = []

theorem obsM_inv {r : Option (Tr Value × St × List Prop)} {XL XA Y : Value} {t : ByteArray} {L A N : List Value} {oL oA oN : Option AObj} (h : obsM r = wantM XL XA Y t L A N oL oA oN) :
    ∃ tm s, r = some (tm, s, psO t oL ++ (psO t oA ++ psO t oN)) ∧ RunM t L A N XL XA Y oL oA oN tm s := by
  unfold obsM wantM at h
  split at h
  · cases h
  rename_i tm s ps
  split at h
  · cases h
  rename_i x1 h1
  split at h
  case h_2 => cases h
  rename_i i7 n7 c7 h7
  split at h
  case h_2 => cases h
  rename_i i8 h8
  split at h
  case h_2 => cases h
  rename_i i9 h9
  split at h
  case h_2 => cases h
  rename_i r7 t7 g7
  split at h
  case h_2 => cases h
  rename_i gg8 t8 g8
  split at h
  case h_2 => cases h
  rename_i iA nA cA y9 iN nN cN t9 g9
  split at h
  case h_2 => cases h
  rename_i rA tA gA
  split at h
  case h_2 => cases h
  rename_i rN tN gN
  simp only [Option.some.injEq, Prod.mk.injEq] at h
  obtain ⟨rfl, ⟨rfl, rfl, rfl, rfl⟩, rfl, rfl, rfl, rfl, ⟨rfl, rfl, rfl, rfl⟩, ⟨rfl, rfl, rfl, rfl⟩, hob, rfl⟩ := h
  exact ⟨tm, s, rfl, h1, ⟨i7, h7, g7⟩, ⟨i8, h8, g8⟩, ⟨i9, iA, iN, h9, g9, gA, gN⟩, List.eq_nil_of_length_eq_zero hob⟩
end Go.Proofs.Ytahopbjoaoiknaa

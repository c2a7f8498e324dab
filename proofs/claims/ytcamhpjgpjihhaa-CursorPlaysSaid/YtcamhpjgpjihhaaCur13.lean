/- Cursor: the reference's Great of one item and a filter; a filter's strings as a list of three. -/
import Derived.Test.YtcamhpjgpjihhaaCur12
namespace Go.Proofs.Ytcamhpjgpjihhaa
set_option linter.unusedVariables false
set_option linter.unusedSimpArgs false
open Go.RowKit

def Gr10 (vn : Nat) (w : World) (n i : Value) (wr : World) : Prop := (i = .int .i64 0 ∧ n = .int .i64 0 ∧ Kp (fun _ => False) w wr) ∨ (∃ m : Int, (m < 20000 → vn < 20000) ∧ i = .int .i64 1 ∧ n = .int .i64 m ∧ Kp (fun _ => False) w wr)

set_option maxRecDepth 8000 in
set_option maxHeartbeats 4000000 in
theorem great10 {w : World} {g vn vc : Nat} {vA : Option Addr} {a y n : Value} {al an no : List ByteArray} (hb : Blk w g #[.int .u32 0, .slice vA vn vc, .slice none 0 0] 75) (hlen : vn ≤ 9223372036854775807) (ha : Strs w a al) (hy : Strs w y an) (hn : Strs w n no) :
    Calls Try.prog 36 #[.slice (some ⟨g, 0, none⟩) 1 1, .agg #[a, y, n]] w (SomeBool (vn < 20000 ∧ al.length ≤ 300 ∧ an.length ≤ 300 ∧ no.length ≤ 300) w) := by
  obtain ⟨aA, ac, rfl, -, -, -⟩ := ha.one
  obtain ⟨yA, yc, rfl, -, -, -⟩ := hy.one
  obtain ⟨nA, nc, rfl, -, -, -⟩ := hn.one
  have kk := (Kp.refl (fun _ => False) w).alloc (.cells #[.slice aA al.length ac, .slice yA an.length yc, .slice nA no.length nc] 24)
  have hF := Blk.new w #[.slice aA al.length ac, .slice yA an.length yc, .slice nA no.length nc] 24
  have hb := hb.kp kk id
  have ha := Lib.hid (ha.keeps (Keeps.kp kk))
  have hy := Lib.hid (hy.keeps (Keeps.kp kk))
  have hn := Lib.hid (hn.keeps (Keeps.kp kk))
  have hlenH := Lib.hid hlen
  clear hlen
  go_enter Try.func36, Try.ntmps36
  go_wp2_with fail
  generalize hW : (w.alloc (.cells #[.slice aA al.length ac, .slice yA an.length yc, .slice nA no.length nc] 24)) = W at *
  clear hW
  generalize w.heap.size = fb at *
  have kw := Kp.refl (fun _ => False) W
  go_loopw [5, 6] (fun n i wr => Gr10 vn W n i wr) (fun _ i _ => 2 - (intOf i).toNat)
  case atStart => exact .inl ⟨rfl, rfl, kw⟩
  case round =>
    clear kw
    rcases hrel with ⟨rfl, rfl, kw⟩ | h
    · have hbr := hb.kp kw id
      have c1 : wr.cell? ⟨g, 1, none⟩ = some (.slice vA vn vc) := (hbr.cell 1).trans rfl
      have c2 : wr.cell? ⟨g, 2, none⟩ = some (.slice none 0 0) := (hbr.cell 2).trans rfl
      have hG := Lib.hid (strs_great (.slice none 0 0) [] wr (RowN.nil _ _ _))
      clear hbr
      go_wp2_with fail
      refine hG.out.mono ?_
      rintro e w2 ⟨q, rfl, -, k2⟩
      have kw := kw.trans k2
      have hm : Hid ((1 + min (vn : Int) 20000) < 20000 → vn < 20000) := fun h => by omega
      clear hG c1 c2 k2
      cases q
      case true =>
        go_wp2_with fail
        go_ret
        exact ⟨true, rfl, fun h => (by cases h), kk.trans kw⟩
      case false =>
        go_wp2_with fail
        go_roundw
        case rel => exact .inr ⟨_, hm.out, rfl, rfl, kw⟩
        case measure => simp [intOf]
    · obtain ⟨m, hm, rfl, rfl, kw⟩ := h
      have hFr := hF.kp kw id
      have f0 : wr.cell? ⟨fb, 0, none⟩ = some (.slice aA al.length ac) := (hFr.cell 0).trans rfl
      have G1 := Lib.hid (strs_great _ _ _ (ha.out.keeps (Keeps.kp kw)))
      have hmH := Lib.hid hm
      clear hm
      by_cases h2 : 20000 ≤ m
      · have hd : decide ((20000 : Int) ≤ m) = true := decide_eq_true h2
        clear h2
        go_wp2_with fail
        go_ret
        exact ⟨true, rfl, fun h => (by cases h), kk.trans kw⟩
      · have hd : decide ((20000 : Int) ≤ m) = false := decide_eq_false h2
        have hvn := Lib.hid (hmH.out (by omega))
        clear h2
        go_wp2_with fail
        refine G1.out.mono ?_
        rintro e w2 ⟨q, rfl, hq1, k2⟩
        have kw := kw.trans k2
        have hq1 := Lib.hid hq1
        have hFr := hFr.kp k2 id
        have f1 : w2.cell? ⟨fb, 1, none⟩ = some (.slice yA an.length yc) := (hFr.cell 1).trans rfl
        have G2 := Lib.hid (strs_great _ _ _ (hy.out.keeps (Keeps.kp kw)))
        clear G1 k2 f0
        cases q
        case true =>
          go_wp2_with fail
          go_ret
          exact ⟨true, rfl, fun h => (by cases h), kk.trans kw⟩
        case false =>
          go_wp2_with fail
          refine G2.out.mono ?_
          rintro e w3 ⟨q, rfl, hq2, k2⟩
          have kw := kw.trans k2
          have hq2 := Lib.hid hq2
          have hFr := hFr.kp k2 id
          have f2 : w3.cell? ⟨fb, 2, none⟩ = some (.slice nA no.length nc) := (hFr.cell 2).trans rfl
          have G3 := Lib.hid (strs_great _ _ _ (hn.out.keeps (Keeps.kp kw)))
          clear G2 k2 f1
          cases q
          case true =>
            go_wp2_with fail
            go_ret
            exact ⟨true, rfl, fun h => (by cases h), kk.trans kw⟩
          case false =>
            go_wp2_with fail
            refine G3.out.mono ?_
            rintro e w4 ⟨q, rfl, hq3, k2⟩
            have kw := kw.trans k2
            have hq3 := Lib.hid hq3
            clear G3 k2 f2
            go_wp2_with fail
            go_ret
            exact ⟨q, rfl, fun h => ⟨hvn.out, (hq1.out (by trivial)).1, (hq2.out (by trivial)).1, (hq3.out h).1⟩, kk.trans kw⟩
end Go.Proofs.Ytcamhpjgpjihhaa

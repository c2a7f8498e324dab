/- Cursor: the reference's Same of two asks; what the statements' arguments hold. -/
import Derived.Test.YtcamhpjgpjihhaaCur8
import Derived.Test.YtcamhpjgpjihhaaCameU
namespace Go.Proofs.Ytcamhpjgpjihhaa
set_option linter.unusedVariables false
set_option linter.unusedSimpArgs false
open Go.RowKit

set_option maxRecDepth 8000 in
set_option maxHeartbeats 2000000 in
theorem ask_same (cs cs' : List Value) (c : AskC) (w : World) (h : AskR w cs c) (h' : AskR w cs' c) :
    Calls Try.prog 30 #[.agg cs.toArray, .agg cs'.toArray] w fun e w' => e = .returned (.bool true) ∧ Kp (fun _ => False) w w' := by
  have kk := ((Kp.refl (fun _ => False) w).alloc (.cells cs.toArray 49)).alloc (.cells cs'.toArray 49)
  have h := h.keeps (Keeps.kp kk)
  have h' := h'.keeps (Keeps.kp kk)
  obtain ⟨v, a, y, n, rfl, hv, ha, hy, hn⟩ := h
  obtain ⟨v', a', y', n', rfl, hv', ha', hy', hn'⟩ := h'
  obtain ⟨pv, pvc, rfl, -, -, -⟩ := hv.one
  obtain ⟨pa, pac, rfl, -, -, -⟩ := ha.one
  obtain ⟨py, pyc, rfl, -, -, -⟩ := hy.one
  obtain ⟨pn, pnc, rfl, -, -, -⟩ := hn.one
  obtain ⟨qv, qvc, rfl, -, -, -⟩ := hv'.one
  obtain ⟨qa, qac, rfl, -, -, -⟩ := ha'.one
  obtain ⟨qy, qyc, rfl, -, -, -⟩ := hy'.one
  obtain ⟨qn, qnc, rfl, -, -, -⟩ := hn'.one
  have hP := (Blk.new w #[.int .i64 c.pin, .slice pv c.vec.length pvc, .slice pa c.al.length pac, .slice py c.an.length pyc, .slice pn c.no.length pnc, .bool c.has, .int .i64 c.ld, .int .u32 c.li] 49).alloc (.cells #[.int .i64 c.pin, .slice qv c.vec.length qvc, .slice qa c.al.length qac, .slice qy c.an.length qyc, .slice qn c.no.length qnc, .bool c.has, .int .i64 c.ld, .int .u32 c.li] 49)
  have hQ := Blk.new (w.alloc (.cells #[.int .i64 c.pin, .slice pv c.vec.length pvc, .slice pa c.al.length pac, .slice py c.an.length pyc, .slice pn c.no.length pnc, .bool c.has, .int .i64 c.ld, .int .u32 c.li] 49)) #[.int .i64 c.pin, .slice qv c.vec.length qvc, .slice qa c.al.length qac, .slice qy c.an.length qyc, .slice qn c.no.length qnc, .bool c.has, .int .i64 c.ld, .int .u32 c.li] 49
  rw [show (w.alloc (.cells #[.int .i64 c.pin, .slice pv c.vec.length pvc, .slice pa c.al.length pac, .slice py c.an.length pyc, .slice pn c.no.length pnc, .bool c.has, .int .i64 c.ld, .int .u32 c.li] 49)).heap.size = w.heap.size + 1 by simp] at hQ
  go_enter Try.func30, Try.ntmps30
  go_wp2_with fail
  generalize hW : ((w.alloc (.cells #[.int .i64 c.pin, .slice pv c.vec.length pvc, .slice pa c.al.length pac, .slice py c.an.length pyc, .slice pn c.no.length pnc, .bool c.has, .int .i64 c.ld, .int .u32 c.li] 49)).alloc (.cells #[.int .i64 c.pin, .slice qv c.vec.length qvc, .slice qa c.al.length qac, .slice qy c.an.length qyc, .slice qn c.no.length qnc, .bool c.has, .int .i64 c.ld, .int .u32 c.li] 49)) = W at *
  clear hW
  generalize hg : w.heap.size = g at *
  clear hg
  have S0 := Lib.hid (ints_same _ _ _ _ (hv) (hv'))
  refine S0.out.mono ?_
  rintro e w1 ⟨rfl, k0⟩
  have kk := kk.trans k0
  have q := k0
  have hP := hP.kp k0 id
  have hQ := hQ.kp k0 id
  have p2 : w1.cell? ⟨g, 2, none⟩ = some (.slice pa c.al.length pac) := (hP.cell 2).trans rfl
  have q2 : w1.cell? ⟨g + 1, 2, none⟩ = some (.slice qa c.al.length qac) := (hQ.cell 2).trans rfl
  clear S0 k0
  go_wp2_with fail
  have S1 := Lib.hid (strs_same _ _ _ _ (ha.keeps (Keeps.kp q)) (ha'.keeps (Keeps.kp q)))
  refine S1.out.mono ?_
  rintro e w2 ⟨rfl, k1⟩
  have kk := kk.trans k1
  have q := q.trans k1
  have hP := hP.kp k1 id
  have hQ := hQ.kp k1 id
  have p3 : w2.cell? ⟨g, 3, none⟩ = some (.slice py c.an.length pyc) := (hP.cell 3).trans rfl
  have q3 : w2.cell? ⟨g + 1, 3, none⟩ = some (.slice qy c.an.length qyc) := (hQ.cell 3).trans rfl
  clear S1 k1
  go_wp2_with fail
  have S2 := Lib.hid (strs_same _ _ _ _ (hy.keeps (Keeps.kp q)) (hy'.keeps (Keeps.kp q)))
  refine S2.out.mono ?_
  rintro e w3 ⟨rfl, k2⟩
  have kk := kk.trans k2
  have q := q.trans k2
  have hP := hP.kp k2 id
  have hQ := hQ.kp k2 id
  have p4 : w3.cell? ⟨g, 4, none⟩ = some (.slice pn c.no.length pnc) := (hP.cell 4).trans rfl
  have q4 : w3.cell? ⟨g + 1, 4, none⟩ = some (.slice qn c.no.length qnc) := (hQ.cell 4).trans rfl
  clear S2 k2
  go_wp2_with fail
  have S3 := Lib.hid (strs_same _ _ _ _ (hn.keeps (Keeps.kp q)) (hn'.keeps (Keeps.kp q)))
  refine S3.out.mono ?_
  rintro e w4 ⟨rfl, k3⟩
  have kk := kk.trans k3
  have q := q.trans k3
  have hP := hP.kp k3 id
  have hQ := hQ.kp k3 id
  have p5 : w4.cell? ⟨g, 5, none⟩ = some (.bool c.has) := (hP.cell 5).trans rfl
  have q5 : w4.cell? ⟨g + 1, 5, none⟩ = some (.bool c.has) := (hQ.cell 5).trans rfl
  have p6 : w4.cell? ⟨g, 6, none⟩ = some (.int .i64 c.ld) := (hP.cell 6).trans rfl
  have q6 : w4.cell? ⟨g + 1, 6, none⟩ = some (.int .i64 c.ld) := (hQ.cell 6).trans rfl
  have p7 : w4.cell? ⟨g, 7, none⟩ = some (.int .u32 c.li) := (hP.cell 7).trans rfl
  have q7 : w4.cell? ⟨g + 1, 7, none⟩ = some (.int .u32 c.li) := (hQ.cell 7).trans rfl
  have e5 : (c.has == c.has) = true := by simp
  have e6 : (c.ld == c.ld) = true := by simp
  have e7 : (c.li == c.li) = true := by simp
  clear S3 k3
  go_wp2_with fail
  go_ret
  exact ⟨rfl, kk⟩

theorem came_hits {w : World} {A : Option Addr} {len cap : Nat} (h : SlIn Try.prog w 47 2 A len cap) : ∃ l, l.length = len ∧ Hits2 w (.slice A len cap) l := by
  refine h.rowN fun es hc => ?_
  obtain ⟨d, i, rfl, -, -⟩ := came47 hc
  exact ⟨(d, i), rfl⟩

def Hits3 (w : World) (v : Value) (l : List (List (Int × Int))) : Prop := RowN 1 (fun w es x => ∃ v, es = [v] ∧ Hits2 w v x) w v l
theorem Hits3.keeps {w w' : World} {v : Value} {l : List (List (Int × Int))} (h : Hits3 w v l) (k : Keeps w w') : Hits3 w' v l := RowN.keeps h k fun _ _ ⟨v, e, h⟩ => ⟨v, e, h.keeps k⟩
theorem came_hits3 {w : World} {v : Value} (h : Came Try.prog w 38 v) : ∃ l, Hits3 w v l := by
  obtain ⟨A, len, cap, rfl, hs⟩ := Came.slIn Try.underlying38 (by kernel_rfl : Try.prog.cellsOf 53 = 1) (by decide) h
  obtain ⟨l, rfl, hs⟩ := hs.rowN (R := fun w es x => ∃ v, es = [v] ∧ Hits2 w v x) (fun es hc => by
    obtain ⟨A, len, cap, rfl, hs⟩ := CameC.slIn Try.underlying53 (by kernel_rfl : Try.prog.cellsOf 47 = 2) (by decide) hc
    obtain ⟨l, rfl, hs⟩ := came_hits hs
    exact ⟨l, _, rfl, hs⟩)
  exact ⟨l, hs⟩
end Go.Proofs.Ytcamhpjgpjihhaa

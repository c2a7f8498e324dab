/- The reference's Same of two messages that hold the same: true. (Written by gen_same.py, a program of this session's own.) -/
import Derived.Test.YtgaaonbjfhklbaaSame2
import Derived.Laws.BytesArg
import Derived.Laws.BytesString
namespace Go.Proofs.Ytgaaonbjfhklbaa
set_option linter.unusedVariables false
set_option linter.unusedSimpArgs false
open Go.RowKit

theorem Ints.convert {w : World} {v : Value} {l : List Int} (h : Ints .u8 w v l) : (convert 33 9 v).run Try.prog w = .ok (.string (strOfNums l)) w := by
  obtain ⟨A, cap, rfl, _, _, hrow⟩ := h.one
  by_cases hn : l.length = 0
  · obtain rfl : l = [] := List.eq_nil_of_length_eq_zero hn
    simp only [List.length_nil]
    rw [run_convert_bytes_string w _ _ _ _ 0 cap Try.underlying33 Try.underlying5 Try.underlying9]
    cases A <;> simp [Conv.bytesToString, loadCells]
    all_goals rfl
  · obtain ⟨b, off, rfl, _⟩ := hrow 0 (by omega)
    refine run_convert_bytes_arg (P := Try.prog) w _ _ Try.underlying33 Try.underlying5 b off l.length cap l rfl (fun i hi => ?_) _ Try.underlying9
    obtain ⟨b', off', e, hc⟩ := hrow i hi
    simp only [Option.some.injEq, Addr.mk.injEq, and_true] at e
    obtain ⟨rfl, rfl⟩ := e
    rw [hc]
    simp [List.getD, List.getElem?_eq_getElem hi]

def BoxA (w : World) (g g' : Nat) (cs cs' : Array Value) : Prop := Blk w g cs 37 ∧ Blk w g' cs' 37
theorem BoxA.kp {w w' : World} {g g' : Nat} {cs cs' : Array Value} (h : BoxA w g g' cs cs') (k : Kp (fun _ => False) w w') : BoxA w' g g' cs cs' := ⟨h.1.kp k id, h.2.kp k id⟩
theorem BoxA.new (w : World) (cs cs' : Array Value) : BoxA ((w.alloc (.cells cs 37)).alloc (.cells cs' 37)) w.heap.size (w.heap.size + 1) cs cs' :=
  ⟨(Blk.new w cs _).alloc _, by simpa using Blk.new (w.alloc (.cells cs 37)) cs' 37⟩

set_option maxRecDepth 100000 in
set_option maxHeartbeats 4000000 in
theorem msg_same (es es' : List Value) (x : MsgC) (w : World) (h : MsgR w es x) (h' : MsgR w es' x) :
    Calls Try.prog 59 #[.agg es.toArray, .agg es'.toArray] w fun e w' => e = .returned (.bool true) ∧ Kp (fun _ => False) w w' := by
  obtain ⟨ch, vc, fa, fy, fn, by_, ns, is, hs, rfl, h0, h1, h2, h3, h4, h5, h6, h7, h8⟩ := h
  obtain ⟨ch', vc', fa', fy', fn', by_', ns', is', hs', rfl, g0, g1, g2, g3, g4, g5, g6, g7, g8⟩ := h'
  obtain ⟨xkind, xreq, xcaps, xtoken, xcode, xn, xname, xcname, xdim, xmetric, xgraph, xlinks, xcwidth, xchanges, xid, xvec, xk, xwidth, xall, xany, xnone, xnum, xpage, xbytes, xversion, xnames, xitems, xhits⟩ := x
  dsimp only at h0 h1 h2 h3 h4 h5 h6 h7 h8 g0 g1 g2 g3 g4 g5 g6 g7 g8
  have hbox := BoxA.new w #[.int .u8 xkind, .int .u32 xreq, .int .u32 xcaps, .int .u64 xtoken, .int .u8 xcode, .int .u32 xn, .string xname, .string xcname, .int .u8 xdim, .int .u8 xmetric, .bool xgraph, .int .u8 xlinks, .int .u16 xcwidth, ch, .int .u32 xid, vc, .int .u16 xk, .int .u16 xwidth, fa, fy, fn, .int .u32 xnum, .int .u32 xpage, by_, .int .u64 xversion, ns, is, hs] #[.int .u8 xkind, .int .u32 xreq, .int .u32 xcaps, .int .u64 xtoken, .int .u8 xcode, .int .u32 xn, .string xname, .string xcname, .int .u8 xdim, .int .u8 xmetric, .bool xgraph, .int .u8 xlinks, .int .u16 xcwidth, ch', .int .u32 xid, vc', .int .u16 xk, .int .u16 xwidth, fa', fy', fn', .int .u32 xnum, .int .u32 xpage, by_', .int .u64 xversion, ns', is', hs']
  have kk := ((Kp.refl (fun _ => False) w).alloc (.cells #[.int .u8 xkind, .int .u32 xreq, .int .u32 xcaps, .int .u64 xtoken, .int .u8 xcode, .int .u32 xn, .string xname, .string xcname, .int .u8 xdim, .int .u8 xmetric, .bool xgraph, .int .u8 xlinks, .int .u16 xcwidth, ch, .int .u32 xid, vc, .int .u16 xk, .int .u16 xwidth, fa, fy, fn, .int .u32 xnum, .int .u32 xpage, by_, .int .u64 xversion, ns, is, hs] 37)).alloc (.cells #[.int .u8 xkind, .int .u32 xreq, .int .u32 xcaps, .int .u64 xtoken, .int .u8 xcode, .int .u32 xn, .string xname, .string xcname, .int .u8 xdim, .int .u8 xmetric, .bool xgraph, .int .u8 xlinks, .int .u16 xcwidth, ch', .int .u32 xid, vc', .int .u16 xk, .int .u16 xwidth, fa', fy', fn', .int .u32 xnum, .int .u32 xpage, by_', .int .u64 xversion, ns', is', hs'] 37)
  have K := Keeps.kp kk
  replace h0 := h0.keeps K
  replace g0 := g0.keeps K
  replace h1 := h1.keeps K
  replace g1 := g1.keeps K
  replace h2 := h2.keeps K
  replace g2 := g2.keeps K
  replace h3 := h3.keeps K
  replace g3 := g3.keeps K
  replace h4 := h4.keeps K
  replace g4 := g4.keeps K
  replace h5 := h5.keeps K
  replace g5 := g5.keeps K
  replace h6 := h6.keeps K
  replace g6 := g6.keeps K
  replace h7 := h7.keeps K
  replace g7 := g7.keeps K
  replace h8 := h8.keeps K
  replace g8 := g8.keeps K
  clear K
  have e_kind : (xkind == xkind) = true := by simp
  have e_req : (xreq == xreq) = true := by simp
  have e_caps : (xcaps == xcaps) = true := by simp
  have e_token : (xtoken == xtoken) = true := by simp
  have e_code : (xcode == xcode) = true := by simp
  have e_n : (xn == xn) = true := by simp
  have e_dim : (xdim == xdim) = true := by simp
  have e_metric : (xmetric == xmetric) = true := by simp
  have e_links : (xlinks == xlinks) = true := by simp
  have e_cwidth : (xcwidth == xcwidth) = true := by simp
  have e_id : (xid == xid) = true := by simp
  have e_k : (xk == xk) = true := by simp
  have e_width : (xwidth == xwidth) = true := by simp
  have e_num : (xnum == xnum) = true := by simp
  have e_page : (xpage == xpage) = true := by simp
  have e_version : (xversion == xversion) = true := by simp
  have e_name : (xname == xname) = true := by rw [beq_dec]; simp
  have e_cname : (xcname == xcname) = true := by rw [beq_dec]; simp
  have e_b : ((strOfNums xbytes) == (strOfNums xbytes)) = true := by rw [beq_dec]; simp
  generalize hsb : strOfNums xbytes = sb at *
  go_enter Try.func59, Try.ntmps59
  go_wp2_with fail
  refine (changes_same _ _ _ _ h0 g0).mono ?_
  rintro e w1 ⟨rfl, k1⟩
  replace kk := kk.trans k1
  replace hbox := hbox.kp k1
  replace h1 := h1.keeps (Keeps.kp k1)
  replace g1 := g1.keeps (Keeps.kp k1)
  replace h2 := h2.keeps (Keeps.kp k1)
  replace g2 := g2.keeps (Keeps.kp k1)
  replace h3 := h3.keeps (Keeps.kp k1)
  replace g3 := g3.keeps (Keeps.kp k1)
  replace h4 := h4.keeps (Keeps.kp k1)
  replace g4 := g4.keeps (Keeps.kp k1)
  replace h5 := h5.keeps (Keeps.kp k1)
  replace g5 := g5.keeps (Keeps.kp k1)
  replace h6 := h6.keeps (Keeps.kp k1)
  replace g6 := g6.keeps (Keeps.kp k1)
  replace h7 := h7.keeps (Keeps.kp k1)
  replace g7 := g7.keeps (Keeps.kp k1)
  replace h8 := h8.keeps (Keeps.kp k1)
  replace g8 := g8.keeps (Keeps.kp k1)
  have c14 := (hbox.1.cell 14).trans rfl
  have d14 := (hbox.2.cell 14).trans rfl
  have c15 := (hbox.1.cell 15).trans rfl
  have d15 := (hbox.2.cell 15).trans rfl
  clear k1 h0 g0
  go_wp2_with fail
  refine (ints_same _ _ _ _ h1 g1).mono ?_
  rintro e w2 ⟨rfl, k1⟩
  replace kk := kk.trans k1
  replace hbox := hbox.kp k1
  replace h2 := h2.keeps (Keeps.kp k1)
  replace g2 := g2.keeps (Keeps.kp k1)
  replace h3 := h3.keeps (Keeps.kp k1)
  replace g3 := g3.keeps (Keeps.kp k1)
  replace h4 := h4.keeps (Keeps.kp k1)
  replace g4 := g4.keeps (Keeps.kp k1)
  replace h5 := h5.keeps (Keeps.kp k1)
  replace g5 := g5.keeps (Keeps.kp k1)
  replace h6 := h6.keeps (Keeps.kp k1)
  replace g6 := g6.keeps (Keeps.kp k1)
  replace h7 := h7.keeps (Keeps.kp k1)
  replace g7 := g7.keeps (Keeps.kp k1)
  replace h8 := h8.keeps (Keeps.kp k1)
  replace g8 := g8.keeps (Keeps.kp k1)
  clear c14 d14
  clear c15 d15
  have c16 := (hbox.1.cell 16).trans rfl
  have d16 := (hbox.2.cell 16).trans rfl
  have c17 := (hbox.1.cell 17).trans rfl
  have d17 := (hbox.2.cell 17).trans rfl
  have c18 := (hbox.1.cell 18).trans rfl
  have d18 := (hbox.2.cell 18).trans rfl
  clear k1 h1 g1
  go_wp2_with fail
  refine (strs_same _ _ _ _ h2 g2).mono ?_
  rintro e w3 ⟨rfl, k1⟩
  replace kk := kk.trans k1
  replace hbox := hbox.kp k1
  replace h3 := h3.keeps (Keeps.kp k1)
  replace g3 := g3.keeps (Keeps.kp k1)
  replace h4 := h4.keeps (Keeps.kp k1)
  replace g4 := g4.keeps (Keeps.kp k1)
  replace h5 := h5.keeps (Keeps.kp k1)
  replace g5 := g5.keeps (Keeps.kp k1)
  replace h6 := h6.keeps (Keeps.kp k1)
  replace g6 := g6.keeps (Keeps.kp k1)
  replace h7 := h7.keeps (Keeps.kp k1)
  replace g7 := g7.keeps (Keeps.kp k1)
  replace h8 := h8.keeps (Keeps.kp k1)
  replace g8 := g8.keeps (Keeps.kp k1)
  clear c16 d16
  clear c17 d17
  clear c18 d18
  have c19 := (hbox.1.cell 19).trans rfl
  have d19 := (hbox.2.cell 19).trans rfl
  clear k1 h2 g2
  go_wp2_with fail
  refine (strs_same _ _ _ _ h3 g3).mono ?_
  rintro e w4 ⟨rfl, k1⟩
  replace kk := kk.trans k1
  replace hbox := hbox.kp k1
  replace h4 := h4.keeps (Keeps.kp k1)
  replace g4 := g4.keeps (Keeps.kp k1)
  replace h5 := h5.keeps (Keeps.kp k1)
  replace g5 := g5.keeps (Keeps.kp k1)
  replace h6 := h6.keeps (Keeps.kp k1)
  replace g6 := g6.keeps (Keeps.kp k1)
  replace h7 := h7.keeps (Keeps.kp k1)
  replace g7 := g7.keeps (Keeps.kp k1)
  replace h8 := h8.keeps (Keeps.kp k1)
  replace g8 := g8.keeps (Keeps.kp k1)
  clear c19 d19
  have c20 := (hbox.1.cell 20).trans rfl
  have d20 := (hbox.2.cell 20).trans rfl
  clear k1 h3 g3
  go_wp2_with fail
  refine (strs_same _ _ _ _ h4 g4).mono ?_
  rintro e w5 ⟨rfl, k1⟩
  replace kk := kk.trans k1
  replace hbox := hbox.kp k1
  replace h5 := h5.keeps (Keeps.kp k1)
  replace g5 := g5.keeps (Keeps.kp k1)
  replace h6 := h6.keeps (Keeps.kp k1)
  replace g6 := g6.keeps (Keeps.kp k1)
  replace h7 := h7.keeps (Keeps.kp k1)
  replace g7 := g7.keeps (Keeps.kp k1)
  replace h8 := h8.keeps (Keeps.kp k1)
  replace g8 := g8.keeps (Keeps.kp k1)
  clear c20 d20
  have c21 := (hbox.1.cell 21).trans rfl
  have d21 := (hbox.2.cell 21).trans rfl
  have c22 := (hbox.1.cell 22).trans rfl
  have d22 := (hbox.2.cell 22).trans rfl
  have c23 := (hbox.1.cell 23).trans rfl
  have d23 := (hbox.2.cell 23).trans rfl
  have c24 := (hbox.1.cell 24).trans rfl
  have d24 := (hbox.2.cell 24).trans rfl
  have c25 := (hbox.1.cell 25).trans rfl
  have d25 := (hbox.2.cell 25).trans rfl
  have q1 := h5.convert
  have q2 := g5.convert
  rw [hsb] at q1 q2
  clear k1 h4 g4
  go_wp2_with fail
  refine (strs_same _ _ _ _ h6 g6).mono ?_
  rintro e w6 ⟨rfl, k1⟩
  replace kk := kk.trans k1
  replace hbox := hbox.kp k1
  replace h7 := h7.keeps (Keeps.kp k1)
  replace g7 := g7.keeps (Keeps.kp k1)
  replace h8 := h8.keeps (Keeps.kp k1)
  replace g8 := g8.keeps (Keeps.kp k1)
  clear c21 d21
  clear c22 d22
  clear c23 d23
  clear c24 d24
  clear c25 d25
  clear q1 q2
  have c26 := (hbox.1.cell 26).trans rfl
  have d26 := (hbox.2.cell 26).trans rfl
  clear k1 h6 g6
  go_wp2_with fail
  refine (items_same _ _ _ _ h7 g7).mono ?_
  rintro e w7 ⟨rfl, k1⟩
  replace kk := kk.trans k1
  replace hbox := hbox.kp k1
  replace h8 := h8.keeps (Keeps.kp k1)
  replace g8 := g8.keeps (Keeps.kp k1)
  clear c26 d26
  have c27 := (hbox.1.cell 27).trans rfl
  have d27 := (hbox.2.cell 27).trans rfl
  clear k1 h7 g7
  go_wp2_with fail
  refine (hits_same _ _ _ _ h8 g8).mono ?_
  rintro e w8 ⟨rfl, k1⟩
  replace kk := kk.trans k1
  replace hbox := hbox.kp k1
  clear c27 d27
  clear k1 h8 g8
  go_wp2_with fail
  go_ret
  exact ⟨rfl, kk⟩
end Go.Proofs.Ytgaaonbjfhklbaa

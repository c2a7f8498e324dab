/- The reference's Great of a message: it says something; where it says no, what is there is small. (Written by gen_great.py, a program of this session's own.) -/
import Derived.Test.YtgaaonbjfhklbaaGreat
import Derived.Test.YtgaaonbjfhklbaaSameMsg
namespace Go.Proofs.Ytgaaonbjfhklbaa
set_option linter.unusedVariables false
set_option linter.unusedSimpArgs false
open Go.RowKit

def SmallMsg (x : MsgC) : Prop := (x.name.size ≤ 50000 ∧ x.cname.size ≤ 50000 ∧ x.bytes.length ≤ 50000 ∧ x.vec.length ≤ 50000 ∧ x.hits.length ≤ 50000 ∧ x.changes.length ≤ 400 ∧ x.items.length ≤ 400) ∧
  (SmallTags x.names ∧ SmallTags x.all ∧ SmallTags x.any ∧ SmallTags x.none) ∧ (∀ i ∈ x.items, SmallItem i) ∧ ∀ c ∈ x.changes, SmallItem c.item
def GreatRelI (w : World) (l : List ItemC) (n i : Value) (wr : World) : Prop := ∃ (k : Nat) (m : Int), k ≤ l.length ∧ i = .int .i64 k ∧ n = .int .i64 m ∧ 0 ≤ m ∧ m < 110000 ∧ (∀ j (h : j < l.length), j < k → m < 50000 → SmallItem l[j]) ∧ Kp (fun _ => False) w wr
theorem min_q (n : Nat) : ∃ q : Int, (if (50001 : Int) < n then (50001 : Int) else n) = q ∧ 0 ≤ q ∧ (q < 50001 → (n : Int) = q) := by
  refine ⟨_, rfl, ?_, ?_⟩ <;> split <;> omega

theorem RowN.sl {α : Type} {c : Nat} {R : World → List Value → α → Prop} {w : World} {v : Value} {l : List α} (h : RowN c R w v l) : ∃ A cap, v = .slice A l.length cap ∧ l.length ≤ maxLen := by
  obtain ⟨A, cap, rfl, h1, h2, _⟩ := h
  exact ⟨A, cap, rfl, by omega⟩

set_option maxRecDepth 100000 in
set_option maxHeartbeats 4000000 in
theorem msg_great (es : List Value) (x : MsgC) (w : World) (h : MsgR w es x) : Calls Try.prog 8 #[.agg es.toArray] w (SomeBool (SmallMsg x) w) := by
  obtain ⟨ch, vc, fa, fy, fn, by_, ns, is, hs, rfl, h0, h1, h2, h3, h4, h5, h6, h7, h8⟩ := h
  obtain ⟨xkind, xreq, xcaps, xtoken, xcode, xn, xname, xcname, xdim, xmetric, xgraph, xlinks, xcwidth, xchanges, xid, xvec, xk, xwidth, xall, xany, xnone, xnum, xpage, xbytes, xversion, xnames, xitems, xhits⟩ := x
  dsimp only at h0 h1 h2 h3 h4 h5 h6 h7 h8
  obtain ⟨chA, chc, rfl, _⟩ := RowN.sl h0
  obtain ⟨vcA, vcc, rfl, _⟩ := RowN.sl h1
  obtain ⟨byA, byc, rfl, _⟩ := RowN.sl h5
  obtain ⟨isA, isc, rfl, hlm⟩ := RowN.sl h7
  obtain ⟨hsA, hsc, rfl, _⟩ := RowN.sl h8
  simp only [maxLen] at hlm
  clear h1 h5 h8
  have hbox := Blk.new w #[.int .u8 xkind, .int .u32 xreq, .int .u32 xcaps, .int .u64 xtoken, .int .u8 xcode, .int .u32 xn, .string xname, .string xcname, .int .u8 xdim, .int .u8 xmetric, .bool xgraph, .int .u8 xlinks, .int .u16 xcwidth, .slice chA xchanges.length chc, .int .u32 xid, .slice vcA xvec.length vcc, .int .u16 xk, .int .u16 xwidth, fa, fy, fn, .int .u32 xnum, .int .u32 xpage, .slice byA xbytes.length byc, .int .u64 xversion, ns, .slice isA xitems.length isc, .slice hsA xhits.length hsc] 37
  have kk := (Kp.refl (fun _ => False) w).alloc (.cells #[.int .u8 xkind, .int .u32 xreq, .int .u32 xcaps, .int .u64 xtoken, .int .u8 xcode, .int .u32 xn, .string xname, .string xcname, .int .u8 xdim, .int .u8 xmetric, .bool xgraph, .int .u8 xlinks, .int .u16 xcwidth, .slice chA xchanges.length chc, .int .u32 xid, .slice vcA xvec.length vcc, .int .u16 xk, .int .u16 xwidth, fa, fy, fn, .int .u32 xnum, .int .u32 xpage, .slice byA xbytes.length byc, .int .u64 xversion, ns, .slice isA xitems.length isc, .slice hsA xhits.length hsc] 37)
  have K := Keeps.kp kk
  replace h0 := h0.keeps K
  replace h2 := h2.keeps K
  replace h3 := h3.keeps K
  replace h4 := h4.keeps K
  replace h6 := h6.keeps K
  replace h7 := h7.keeps K
  clear K
  obtain ⟨q1, e1, p1, r1⟩ := min_q xname.size
  obtain ⟨q2, e2, p2, r2⟩ := min_q xcname.size
  obtain ⟨q3, e3, p3, r3⟩ := min_q xbytes.length
  obtain ⟨q4, e4, p4, r4⟩ := min_q xvec.length
  obtain ⟨q5, e5, p5, r5⟩ := min_q xhits.length
  by_cases b1 : 50000 < q1 + q2 + q3 + q4 + q5
  · clear r1 r2 r3 r4 r5
    go_enter Try.func8, Try.ntmps8
    go_wp2_with fail
    go_ret
    exact ⟨_, rfl, by simp, kk⟩
  have hs0 : xname.size ≤ 50000 ∧ xcname.size ≤ 50000 ∧ xbytes.length ≤ 50000 ∧ xvec.length ≤ 50000 ∧ xhits.length ≤ 50000 := by omega
  have hs1 : (xname.size : Int) + xcname.size + xbytes.length + xvec.length + xhits.length ≤ 50000 := by omega
  clear r1 r2 r3 r4 r5 e1 e2 e3 e4 e5 p1 p2 p3 p4 p5 b1
  by_cases b2 : 400 < xchanges.length
  · go_enter Try.func8, Try.ntmps8
    go_wp2_with fail
    go_ret
    exact ⟨_, rfl, by simp, kk⟩
  by_cases b3 : 400 < xitems.length
  · go_enter Try.func8, Try.ntmps8
    go_wp2_with fail
    go_ret
    exact ⟨_, rfl, by simp, kk⟩
  have hd1 : decide ((50000 : Int) < (xname.size : Int) + xcname.size + xbytes.length + xvec.length + xhits.length) = false := by simp; omega
  have hd2 : decide ((400 : Int) < (xchanges.length : Int)) = false := by simp; omega
  have hd3 : decide ((400 : Int) < (xitems.length : Int)) = false := by simp; omega
  go_enter Try.func8, Try.ntmps8
  go_wp2_with fail
  refine (strs_great _ _ _ h6).mono ?_
  rintro e w1 ⟨g, rfl, t6, k1⟩
  replace kk := kk.trans k1
  replace hbox := hbox.kp k1 id
  replace h0 := h0.keeps (Keeps.kp k1)
  replace h7 := h7.keeps (Keeps.kp k1)
  replace h2 := h2.keeps (Keeps.kp k1)
  replace h3 := h3.keeps (Keeps.kp k1)
  replace h4 := h4.keeps (Keeps.kp k1)
  clear k1 h6
  have c18 := (hbox.cell 18).trans rfl
  cases g
  case true =>
    clear t6
    go_wp2_with fail
    go_ret
    exact ⟨_, rfl, by simp, kk⟩
  replace t6 := t6 rfl
  go_wp2_with fail
  refine (strs_great _ _ _ h2).mono ?_
  rintro e w2 ⟨g, rfl, t2, k1⟩
  replace kk := kk.trans k1
  replace hbox := hbox.kp k1 id
  replace h0 := h0.keeps (Keeps.kp k1)
  replace h7 := h7.keeps (Keeps.kp k1)
  replace h3 := h3.keeps (Keeps.kp k1)
  replace h4 := h4.keeps (Keeps.kp k1)
  clear k1 h2
  clear c18
  have c19 := (hbox.cell 19).trans rfl
  cases g
  case true =>
    clear t2
    go_wp2_with fail
    go_ret
    exact ⟨_, rfl, by simp, kk⟩
  replace t2 := t2 rfl
  go_wp2_with fail
  refine (strs_great _ _ _ h3).mono ?_
  rintro e w3 ⟨g, rfl, t3, k1⟩
  replace kk := kk.trans k1
  replace hbox := hbox.kp k1 id
  replace h0 := h0.keeps (Keeps.kp k1)
  replace h7 := h7.keeps (Keeps.kp k1)
  replace h4 := h4.keeps (Keeps.kp k1)
  clear k1 h3
  clear c19
  have c20 := (hbox.cell 20).trans rfl
  cases g
  case true =>
    clear t3
    go_wp2_with fail
    go_ret
    exact ⟨_, rfl, by simp, kk⟩
  replace t3 := t3 rfl
  go_wp2_with fail
  refine (strs_great _ _ _ h4).mono ?_
  rintro e w4 ⟨g, rfl, t4, k1⟩
  replace kk := kk.trans k1
  replace hbox := hbox.kp k1 id
  replace h0 := h0.keeps (Keeps.kp k1)
  replace h7 := h7.keeps (Keeps.kp k1)
  clear k1 h4
  clear c20
  have c26 := (hbox.cell 26).trans rfl
  cases g
  case true =>
    clear t4
    go_wp2_with fail
    go_ret
    exact ⟨_, rfl, by simp, kk⟩
  replace t4 := t4 rfl
  clear c26
  go_wp2_with fail
  go_loopw [3, 4] (fun n i wr => GreatRelI w4 xitems n i wr) (fun _ i _ => xitems.length - (intOf i).toNat)
  case atStart => exact ⟨0, _, by omega, rfl, rfl, by omega, by omega, fun j _ h _ => absurd h (by omega), Kp.refl _ _⟩
  case round =>
    clear hd1 hd2 hd3
    obtain ⟨k, m, hk, rfl, rfl, hm0, hm1, hall, kw⟩ := hrel
    have c26 : wr.cell? ⟨w.heap.size, 26, none⟩ = some (.slice isA xitems.length isc) := kw.cell0 ((hbox.cell 26).trans rfl)
    by_cases hlt : k < xitems.length ∧ m < 50000
    · obtain ⟨hlt, hm2⟩ := hlt
      obtain ⟨_, _, e7, _, _, hrow⟩ := h7
      obtain ⟨b, off, es, hA, hl2, hc, v, t, rfl, hv, ht⟩ := hrow k hlt
      obtain ⟨vA, vc, rfl, _⟩ := RowN.sl hv
      simp only [Value.slice.injEq] at e7
      obtain ⟨rfl, -, rfl⟩ := e7
      subst hA
      have c1 : wr.cell? ⟨b, off + k * 3 + 1, none⟩ = some (.slice vA xitems[k].vec.length vc) := kw.cell0 ((hc 1 (by omega)).trans rfl)
      have c2 : wr.cell? ⟨b, off + k * 3 + 2, none⟩ = some t := kw.cell0 ((hc 2 (by omega)).trans rfl)
      replace ht := ht.keeps (Keeps.kp kw)
      clear hrow hc hv
      generalize hx : xitems[k] = x at *
      by_cases hbig : 50000 < (x.vec.length : Int)
      all_goals
        go_wp2_with fail
        refine (strs_great _ _ _ ht).mono ?_
        rintro e w5 ⟨g, rfl, hg, k1⟩
        have kw := kw.trans k1
        clear k1 c1 c2 ht
        cases g
        · replace hg : SmallTags x.tags := hg rfl
          go_wp2_with fail
          refine ⟨⟨k + 1, _, by omega, by go_num, rfl, ?_, ?_, fun j hj hjk hmm => ?_, kw⟩, by simp [intOf]; omega⟩
          · omega
          · omega
          · by_cases hjj : j = k
            · subst hjj
              rw [hx]
              exact ⟨by omega, hg⟩
            · exact hall j hj (by omega) hm2
        · clear hg
          go_wp2_with fail
          go_ret
          exact ⟨_, rfl, by simp, kk.trans kw⟩
    · have c13 : wr.cell? ⟨w.heap.size, 13, none⟩ = some (.slice chA xchanges.length chc) := kw.cell0 ((hbox.cell 13).trans rfl)
      replace h0 := h0.keeps (Keeps.kp kw)
      have kk := kk.trans kw
      clear kw
      by_cases hm2 : m < 50000
      · have hkl : k = xitems.length := by omega
        subst hkl
        have hs : ∀ i ∈ xitems, SmallItem i := fun s hs => by
          obtain ⟨j, hj, rfl⟩ := List.mem_iff_getElem.1 hs
          exact hall j hj hj hm2
        clear hall hlt
        have hd : decide ((50000 : Int) ≤ m) = false := by simp; omega
        go_wp2_with fail
        refine (changes_great _ _ _ h0).mono ?_
        rintro e w5 ⟨g, rfl, hg, k1⟩
        have kk := kk.trans k1
        clear k1 h0
        go_wp2_with fail
        go_ret
        exact ⟨g, rfl, fun h => ⟨⟨hs0.1, hs0.2.1, hs0.2.2.1, hs0.2.2.2.1, hs0.2.2.2.2, Nat.le_of_not_lt b2, Nat.le_of_not_lt b3⟩, ⟨t6, t2, t3, t4⟩, hs, (hg h).2⟩, kk⟩
      · have hge : 50000 ≤ m := by omega
        clear hall
        have hcase : (decide (k < xitems.length) = false) ∨ ((decide (k < xitems.length) = true) ∧ ¬ m < 50000) := by
          by_cases h : k < xitems.length
          · exact .inr ⟨by simpa using h, by omega⟩
          · exact .inl (by simpa using h)
        clear hlt
        rcases hcase with hl | ⟨hl, hl2⟩
        all_goals
          go_wp2_with fail
          go_ret
          exact ⟨_, rfl, by simp, kk⟩
end Go.Proofs.Ytgaaonbjfhklbaa

/- DedupPlays: the table and the reference side by side: asking, keeping, acknowledging both. -/
import Derived.Test.YtnjkoapkgoiljaaDedupAlive
import Derived.Test.YtnjkoapkgoiljaaDedupLists
import Derived.Test.YtnjkoapkgoiljaaRef16
import Derived.Test.YtnjkoapkgoiljaaSameMsg
import Derived.Test.YtnjkoapkgoiljaaGreatMsg
namespace Go.Proofs.Ytnjkoapkgoiljaa
open Go.RowKit

theorem u8o {n : Int} (h : (Lit.int .u8 n).wf = true) : 0 ≤ n ∧ n < 256 := by
  have := bounds_u8 h
  omega
theorem u32o {n : Int} (h : (Lit.int .u32 n).wf = true) : 0 ≤ n ∧ n < 4294967296 := by
  have := bounds_u32 h
  omega

/-- The operations that came in: each reads as its kind, its number and a message. -/
def OpsP (w : World) (A : Option Addr) (len : Nat) : Prop :=
  len ≤ maxLen ∧ ∀ i, i < len → ∃ b off kd far, ∃ (m : List Value) (x : MsgC), A = some ⟨b, off, none⟩ ∧ b < w.heap.size ∧ rdAt w ⟨b, off + i * 30, none⟩ 30 = some (#[.int .u8 kd, .int .u32 far] ++ m.toArray) ∧ m.length = 28 ∧ oneB m.toArray = true ∧ MsgR w m x ∧ 0 ≤ kd ∧ kd < 256 ∧ 0 ≤ far ∧ far < 4294967296

theorem MsgR.len {w : World} {m : List Value} {x : MsgC} (h : MsgR w m x) : m.length = 28 := by
  obtain ⟨_, _, _, _, _, _, _, _, _, rfl, _⟩ := h
  rfl
theorem MsgR.one {w : World} {m : List Value} {x : MsgC} (h : MsgR w m x) : oneB m.toArray = true := by
  obtain ⟨ch, vc, fa, fy, fn, by_, ns, is, hs, rfl, h0, h1, h2, h3, h4, h5, h6, h7, h8⟩ := h
  obtain ⟨_, _, rfl, _⟩ := RowN.sl h0
  obtain ⟨_, _, rfl, _⟩ := RowN.sl h1
  obtain ⟨_, _, rfl, _⟩ := RowN.sl h2
  obtain ⟨_, _, rfl, _⟩ := RowN.sl h3
  obtain ⟨_, _, rfl, _⟩ := RowN.sl h4
  obtain ⟨_, _, rfl, _⟩ := RowN.sl h5
  obtain ⟨_, _, rfl, _⟩ := RowN.sl h6
  obtain ⟨_, _, rfl, _⟩ := RowN.sl h7
  obtain ⟨_, _, rfl, _⟩ := RowN.sl h8
  rfl

theorem OpsP.of_came {w : World} {v : Value} (h : Came Try.prog w 51 v) : ∃ A len cap, v = .slice A len cap ∧ OpsP w A len := by
  obtain ⟨A, len, cap, rfl, h1, h2, h3⟩ := Came.row Try.underlying51 (by kernel_rfl : Try.prog.cellsOf 69 = 30) (by decide) h
  refine ⟨A, len, cap, rfl, by omega, fun i hi => ?_⟩
  obtain ⟨b, off, es, rfl, hl, hc, hcame⟩ := h3 i hi
  obtain ⟨fs, hu, hf⟩ := fields69
  obtain ⟨_, hs⟩ := CameC.struct hu hcame
  have key := fun t o => key_of hf hs (t := t) (o := o)
  have k0 := key 5 0 (by simp)
  have k1 := key 30 1 (by simp)
  have k2 := key 67 2 (by simp)
  rw [show Try.prog.cellsOf 5 = 1 from by kernel_rfl] at k0
  rw [show Try.prog.cellsOf 30 = 1 from by kernel_rfl] at k1
  rw [cells67] at k2
  obtain ⟨c0, es1, rfl, hl1⟩ := cons_of hl
  obtain ⟨c1, es, rfl, hl2⟩ := cons_of hl1
  obtain ⟨kd, e0, hkd⟩ := CameC.int Try.underlying5 k0
  obtain ⟨far, e1, hfar⟩ := CameC.int Try.underlying30 k1
  simp only [List.drop_succ_cons, List.drop_zero, List.take_succ_cons, List.take_zero, List.cons.injEq, and_true] at e0 e1
  subst e0 e1
  simp only [List.drop_succ_cons, List.drop_zero] at k2
  rw [List.take_of_length_le (by omega)] at k2
  obtain ⟨x, hx⟩ := msgR_of k2
  have hkd := u8o hkd
  have hfar := u32o hfar
  have hrd := rdAt_row (i := i) (off := off) (c := 30) hl hc
  have hb : b < w.heap.size := by
    have := hc 0 (by omega)
    exact cell_block (a := ⟨b, off + i * 30 + 0, none⟩) this
  exact ⟨b, off, kd, far, es, x, rfl, hb, by simpa using hrd, hl2, hx.one, hx, hkd.1, hkd.2, hfar.1, hfar.2⟩

/-- The answer that is kept for a number. -/
def fM (ms : List (List Value)) (n : Int) : Value := .agg (ms.getD (n - 1).toNat []).toArray

/-- The table and the reference: so many done, so many acknowledged. -/
structure DpSt (w : World) (b r c : Nat) (ms : List (List Value)) (A : Int) (wr : World) : Prop where
  lo : 0 ≤ A
  hi : A ≤ ms.length
  room : (ms.length : Int) - A ≤ 16
  tab : TabAt wr b r ms.length A (Ents (fM ms) A (ms.length - A).toNat)
  ref : ∃ v, R16 wr w.heap.size c v ms A
  msgs : ∀ m ∈ ms, ∃ x, MsgR w m x
  below : Below w.heap.size w wr

def DpRel (w : World) (b r c len : Nat) (i : Value) (wr : World) : Prop := ∃ (k : Nat) (ms : List (List Value)) (A : Int), i = .int .i64 k ∧ k ≤ len ∧ k ≤ 100 ∧ ms.length ≤ k ∧ DpSt w b r c ms A wr
def DpCut (w : World) (b r c k : Nat) (wr : World) : Prop := ∃ (ms : List (List Value)) (A : Int), ms.length ≤ k + 1 ∧ DpSt w b r c ms A wr

theorem DpSt.quiet {w wr w' : World} {b r c : Nat} {ms : List (List Value)} {A : Int} (h : DpSt w b r c ms A wr) (k : Kp (fun _ => False) wr w') : DpSt w b r c ms A w' :=
  ⟨h.lo, h.hi, h.room, h.tab.kp k id id, h.ref.imp fun _ hr => hr.kp0 k, h.msgs, k.below_of h.below h.below.size (fun _ h => h.elim)⟩


theorem fM_grow (ms : List (List Value)) (m : List Value) (A : Int) (k : Nat) (h : A + k ≤ ms.length) (h0 : 0 ≤ A) : Ents (fM (ms ++ [m])) A k = Ents (fM ms) A k := by
  refine Ents.eq_of (Ents.keys _ _ _) fun p hp => ?_
  have hk := (Ents.keys _ _ _).mem p hp
  rw [Ents.val _ _ _ p hp]
  unfold fM
  rw [List.getD_eq_getElem?_getD, List.getD_eq_getElem?_getD, List.getElem?_append_left (by omega)]

theorem same_zero (w : World) : Calls Try.prog 38 #[.agg zMsg, .agg zMsg] w fun e w' => e = .returned (.bool true) ∧ Kp (fun _ => False) w w' :=
  msg_same _ _ zMsgC w (msgR_zero w) (msgR_zero w)

theorem ask_both {w wr : World} {b r c : Nat} {ms : List (List Value)} {A : Int} (st : DpSt w b r c ms A wr) (R : Int) (h0 : 0 ≤ R) (h1 : R < 4294967296) (hD : ms.length ≤ 100) :
    ∃ (a : Array Value) (n : Int), a.size = 28 ∧ oneB a = true ∧ 0 ≤ n ∧ n < 10 ∧
      (∀ wr, DpSt w b r c ms A wr → Calls Try.prog 34 #[.pointer (some ⟨b, 0, none⟩), .int .u32 R] wr fun e w' => e = .returned (.tuple #[.agg a, .int .u8 n]) ∧ Kp (fun _ => False) wr w') ∧
      (∀ wr, DpSt w b r c ms A wr → Calls Try.prog 37 #[.pointer (some ⟨c, 0, none⟩), .int .i64 R] wr fun e w' => e = .returned (.tuple #[.agg a, .int .i64 n]) ∧ Kp (fun _ => False) wr w') ∧
      (∀ wr, DpSt w b r c ms A wr → Calls Try.prog 38 #[.agg a, .agg a] wr fun e w' => e = .returned (.bool true) ∧ Kp (fun _ => False) wr w') := by
  have hlo := st.lo
  have hhi := st.hi
  have hms := st.msgs
  by_cases ha : R ≤ A
  · refine ⟨zMsg, 3, zMsg_size, zMsg_one, by omega, by omega, fun wr s => tab_ask_past _ _ _ _ _ _ _ s.tab ha, fun wr s => ?_, fun wr s => same_zero wr⟩
    obtain ⟨v, hv⟩ := s.ref
    exact r16_ask_no _ _ _ _ _ _ _ _ hv (.inl ⟨ha, rfl⟩) (by omega)
  by_cases hb : R ≤ ms.length
  · obtain ⟨k, rfl⟩ : ∃ k : Nat, R = (k : Int) + 1 := ⟨(R - 1).toNat, by omega⟩
    have hk : k < ms.length := by omega
    obtain ⟨x, hx⟩ := hms _ (List.getElem_mem hk)
    refine ⟨ms[k].toArray, 2, by simp [hx.len], hx.one, by omega, by omega, fun wr s => tab_ask_again _ _ _ _ _ _ _ s.tab _ (by simp [hx.len]) hx.one (by omega) (by omega) ?_, fun wr s => ?_, fun wr s => ?_⟩
    · rw [Ents.look _ _ _ _ (by omega) (by omega)]
      unfold fM
      rw [show ((k : Int) + 1 - 1).toNat = k by omega, List.getD_eq_getElem?_getD, List.getElem?_eq_getElem hk]
      rfl
    · obtain ⟨v, hv⟩ := s.ref
      exact r16_ask_again _ _ _ _ _ k hk _ hv (by omega) (by omega) hx.one hv.1.lt
    · have hx' := MsgR.keeps (Keeps.below s.below) _ x hx
      exact msg_same _ _ x wr hx' hx'
  by_cases hc : R = ms.length + 1
  · refine ⟨zMsg, 1, zMsg_size, zMsg_one, by omega, by omega, fun wr s => tab_ask_fresh _ _ _ _ _ _ _ s.tab (by omega) hc (by omega) (by omega), fun wr s => ?_, fun wr s => same_zero wr⟩
    obtain ⟨v, hv⟩ := s.ref
    exact r16_ask_no _ _ _ _ _ _ _ _ hv (.inr (.inl ⟨by omega, hc, rfl⟩)) (by omega)
  · refine ⟨zMsg, 4, zMsg_size, zMsg_one, by omega, by omega, fun wr s => tab_ask_gap _ _ _ _ _ _ _ s.tab (by omega) (by omega) (by omega) h1, fun wr s => ?_, fun wr s => same_zero wr⟩
    obtain ⟨v, hv⟩ := s.ref
    exact r16_ask_no _ _ _ _ _ _ _ _ hv (.inr (.inr ⟨by omega, by omega, rfl⟩)) (by omega)

/-- The blocks apart. -/
structure Apart (w : World) (b r c : Nat) : Prop where
  b0 : w.heap.size ≤ b
  r0 : w.heap.size ≤ r
  c0 : w.heap.size ≤ c
  br : r ≠ b
  cb : c ≠ b
  cr : c ≠ r

theorem own_ne_map {w : World} {base n size r : Nat} {e : TypeId} {v : Value} {xs : List Value} {κ : Type} {kv : κ → Value} {m : List (κ × Value)} (h : w.ownsRow base e size v n xs) (hM : MapAt w r kv m) : ∀ g, v.ownBlock = some g → g ≠ r := by
  intro g hg
  rcases h.2 with ⟨rfl, _⟩ | ⟨g', cap, cur, rfl, _, hh, _⟩
  · simp [Value.ownBlock] at hg
  · simp [Value.ownBlock] at hg
    subst hg
    exact fun e => hM.ne_blk (show Blk w _ cur _ from hh) e.symm

theorem rdAt_kp {S : Nat → Prop} {w w' : World} {a : Addr} {n : Nat} {es : Array Value} (h : rdAt w a n = some es) (k : Kp S w w') (hn : ¬ S a.block) : rdAt w' a n = some es := by
  obtain ⟨hl, hc⟩ := rdAt_cells h
  have := rdAt_of (w := w') (a := a) (es := es.toList) fun j hj => by
    have hj' : j < es.size := by simpa using hj
    have h1 := hc j (by omega)
    rw [Array.getElem?_eq_getElem hj'] at h1
    have hab : (a.add j).block = a.block := by unfold Addr.add; split <;> rfl
    rw [k.cell h1 (by rw [hab]; exact hn)]
    simp [hj']
  simpa [hl] using this

theorem R16.after_tab {w w' : World} {base b r c : Nat} {v : Value} {ms : List (List Value)} {A d a : Int} {m : List (Int × Value)} (h : R16 w base c v ms A) (hT : TabAt w b r d a m) (k : Kp (fun i => i = b ∨ i = r) w w') (ap : Apart w' b r c ∨ (c ≠ b ∧ c ≠ r)) : R16 w' base c v ms A := by
  have hcbr : c ≠ b ∧ c ≠ r := by
    rcases ap with h | h
    · exact ⟨h.cb, h.cr⟩
    · exact h
  refine h.kp k (fun e => by rcases e with e | e; exact hcbr.1 e; exact hcbr.2 e) fun g hg e => ?_
  rcases e with e | e
  · exact own_ne_blk h.2.1 hT.1 (by decide) g hg e
  · exact own_ne_map h.2.1 hT.2 g hg e

theorem ack_both {w wr : World} {b r c : Nat} {ms : List (List Value)} {A : Int} (st : DpSt w b r c ms A wr) (ap : Apart w b r c) (q : Int) (h0 : 0 ≤ q) (h1 : q < 4294967296) (hD : ms.length ≤ 100) :
    ∃ n : Int, Calls Try.prog 32 #[.pointer (some ⟨b, 0, none⟩), .int .u32 q] wr fun e w' => e = .returned (.int .i64 n) ∧
      Calls Try.prog 40 #[.pointer (some ⟨c, 0, none⟩), .int .i64 q] w' fun e w'' => e = .returned (.int .i64 n) ∧ ∃ A', DpSt w b r c ms A' w'' := by
  have hlo := st.lo
  have hhi := st.hi
  have hrm := st.room
  obtain ⟨v, hv⟩ := st.ref
  by_cases hq : q ≤ ms.length
  · refine ⟨0, (tab_ack _ _ _ _ _ _ _ st.tab hlo (by omega) hq h0 (fun p hp => ((Ents.keys _ _ _).mem p hp).1)).mono ?_⟩
    rintro e w' ⟨rfl, a, ha, hT, k1⟩
    refine ⟨rfl, ?_⟩
    have hv' := hv.after_tab st.tab k1 (.inr ⟨ap.cb, ap.cr⟩)
    refine (r16_ack _ _ _ _ _ _ _ hv' hq hlo h0).mono ?_
    rintro e w'' ⟨rfl, hv2, k2⟩
    have hae : (if A < q then q else A) = a := by rw [ha]; split <;> split <;> omega
    rw [hae] at hv2
    have ha2 : A ≤ a ∧ a ≤ ms.length := by rw [← hae]; split <;> omega
    rw [Ents.kept _ _ _ _ ha2.1 (by omega), show (A + ((((ms.length : Int) - A).toNat : Nat) : Int) - a) = (ms.length : Int) - a by omega] at hT
    refine ⟨rfl, a, by omega, ha2.2, by omega, hT.kp k2 (fun e => ap.cb e.symm) (fun e => ap.cr e.symm), ⟨v, hv2⟩, st.msgs, ?_⟩
    have b1 := k1.below_of st.below st.below.size (fun i hi => by rcases hi with rfl | rfl; exact ap.b0; exact ap.r0)
    exact k2.below_of b1 b1.size (fun i hi => by rw [hi]; exact ap.c0)
  · refine ⟨1, (tab_ack_arg _ _ _ _ _ _ _ st.tab (by omega)).mono ?_⟩
    rintro e w' ⟨rfl, rfl⟩
    refine ⟨rfl, (r16_ack_arg _ _ _ _ _ _ _ hv (by omega)).mono ?_⟩
    rintro e w'' ⟨rfl, rfl⟩
    exact ⟨rfl, A, st⟩

theorem keep_both {w wr : World} {b r c o : Nat} {ms : List (List Value)} {A : Int} {m : List Value} {x : MsgC} {es : Array Value} (st : DpSt w b r c ms A wr) (ap : Apart w b r c) (hO : Blk wr o es 69) (hrd : rdAt wr ⟨o, 2, none⟩ 28 = some m.toArray) (hx : MsgR w m x)
    (q : Int) (h0 : 0 ≤ q) (h1 : q < 4294967296) (hD : ms.length ≤ 100) (hoc : o ≠ c) (hob : o ≠ b) (hor : o ≠ r) :
    ∃ n : Int, Calls Try.prog 31 #[.pointer (some ⟨b, 0, none⟩), .int .u32 q, .agg m.toArray] wr fun e w' => e = .returned (.int .i64 n) ∧ rdAt w' ⟨o, 2, none⟩ 28 = some m.toArray ∧
      Calls Try.prog 39 #[.pointer (some ⟨c, 0, none⟩), .int .i64 q, .agg m.toArray] w' fun e w'' => e = .returned (.int .i64 n) ∧ rdAt w'' ⟨o, 2, none⟩ 28 = some m.toArray ∧ ∃ ms', ms'.length ≤ ms.length + 1 ∧ DpSt w b r c ms' A w'' := by
  have hlo := st.lo
  have hhi := st.hi
  have hrm := st.room
  obtain ⟨v, hv⟩ := st.ref
  have hkl : (Ents (fM ms) A ((ms.length : Int) - A).toNat).length = ((ms.length : Int) - A).toNat := (Ents.keys _ _ _).len
  by_cases hq : q = ms.length + 1
  · subst hq
    by_cases hf : 16 ≤ (ms.length : Int) - A
    · refine ⟨4, (tab_keep_full _ _ _ _ _ _ _ _ st.tab (by omega) (by omega) rfl (by omega)).mono ?_⟩
      rintro e w' ⟨rfl, rfl⟩
      have k1 := (Kp.refl (fun _ => False) wr).alloc (.cells m.toArray 67)
      have st1 := st.quiet k1
      have hrd1 := rdAt_kp hrd k1 id
      refine ⟨rfl, hrd1, (r16_keep_full _ _ _ _ _ _ _ (hv.kp0 k1) (by omega) hlo hf).mono ?_⟩
      rintro e w'' ⟨rfl, k2⟩
      exact ⟨rfl, rdAt_kp hrd1 k2 id, ms, by omega, st1.quiet k2⟩
    · refine ⟨0, (tab_keep _ _ _ _ _ _ _ _ st.tab (by omega) (by omega) rfl (by omega) (by simp [hx.len])).mono ?_⟩
      rintro e w' ⟨rfl, hT, k1⟩
      have hv' := hv.after_tab st.tab k1 (.inr ⟨ap.cb, ap.cr⟩)
      have hrd1 := rdAt_kp hrd k1 (by simp [hob, hor])
      have hO1 := hO.kp k1 (by simp [hob, hor])
      have b1 := k1.below_of st.below st.below.size (fun i hi => by rcases hi with rfl | rfl; exact ap.b0; exact ap.r0)
      refine ⟨rfl, hrd1, (r16_keep _ _ _ _ _ _ _ hv' (by omega) hlo hhi (by omega) hx.len hx.one b1.size).mono ?_⟩
      rintro e w'' ⟨rfl, v', hv2, k2, hat⟩
      have hno : ¬ (o = c ∨ v.ownBlock = some o) := by
        rintro (e | e)
        · exact hoc e
        · exact own_ne_blk hv'.2.1 hO1 (by decide) o e rfl
      have hnb : ¬ (b = c ∨ v.ownBlock = some b) := by
        rintro (e | e)
        · exact ap.cb e.symm
        · exact own_ne_blk hv'.2.1 hT.1 (by decide) b e rfl
      have hnr : ¬ (r = c ∨ v.ownBlock = some r) := by
        rintro (e | e)
        · exact ap.cr e.symm
        · exact own_ne_map hv'.2.1 hT.2 r e rfl
      refine ⟨rfl, rdAt_kp hrd1 k2 hno, ms ++ [m], by simp, by omega, by simp; omega, by simp; omega, ?_, ⟨v', hv2⟩, ?_, ?_⟩
      · have hT2 := hT.kp k2 hnb hnr
        have e1 : (((ms ++ [m]).length : Nat) : Int) = (ms.length : Int) + 1 := by simp
        rw [e1, show ((ms.length : Int) + 1 - A).toNat = ((ms.length : Int) - A).toNat + 1 by omega]
        have hp := Ents.put (fM (ms ++ [m])) A ((ms.length : Int) - A).toNat
        rw [show A + ((((ms.length : Int) - A).toNat : Nat) : Int) + 1 = (ms.length : Int) + 1 by omega, fM_grow ms m A _ (by omega) hlo] at hp
        rw [← hp]
        have hlast : fM (ms ++ [m]) ((ms.length : Int) + 1) = .agg m.toArray := by
          unfold fM
          rw [show ((ms.length : Int) + 1 - 1).toNat = ms.length by omega]
          simp [List.getD_eq_getElem?_getD]
        rw [hlast]
        exact hT2
      · intro m' hm'
        rcases List.mem_append.1 hm' with h | h
        · exact st.msgs m' h
        · simp at h; subst h; exact ⟨x, hx⟩
      · refine k2.below_of b1 b1.size fun i hi => ?_
        rcases hi with rfl | hi
        · exact ap.c0
        · exact (own_base' hv'.2.1 i hi).1
  · refine ⟨1, (tab_keep_arg _ _ _ _ _ _ _ _ st.tab h0 h1 (by omega) (by omega)).mono ?_⟩
    rintro e w' ⟨rfl, rfl⟩
    have k1 := (Kp.refl (fun _ => False) wr).alloc (.cells m.toArray 67)
    have st1 := st.quiet k1
    have hrd1 := rdAt_kp hrd k1 id
    refine ⟨rfl, hrd1, (r16_keep_arg _ _ _ _ _ _ _ _ (hv.kp0 k1) (by omega) hq).mono ?_⟩
    rintro e w'' ⟨rfl, k2⟩
    exact ⟨rfl, rdAt_kp hrd1 k2 id, ms, by omega, st1.quiet k2⟩
end Go.Proofs.Ytnjkoapkgoiljaa

/- Cursor: a table with one cursor; the statements' alive. -/
import Derived.Test.YtcamhpjgpjihhaaCur7
namespace Go.Proofs.Ytcamhpjgpjihhaa
set_option linter.unusedVariables false
set_option linter.unusedSimpArgs false
open Go.RowKit

/-- The one cursor of a table: number 1, at block b. -/
def OneC (w : World) (B bt bm b : Nat) (idle : Int) (c : Cur) : Prop := TabAt w B bt bm idle 1 [(1, b, c)]

theorem OneC.kp {w w' : World} {B bt bm b : Nat} {idle : Int} {c : Cur} (h : OneC w B bt bm b idle c) (k : Kp (fun _ => False) w w') : OneC w' B bt bm b idle c := TabAt.kp h k

theorem look1 (b : Nat) (c : Cur) : lookC [(1, b, c)] 1 = some (b, c) := rfl
theorem set1C (b : Nat) (c c' : Cur) : setC [(1, b, c)] 1 c' = [(1, b, c')] := rfl

theorem open_first {w : World} {B bt bm : Nat} {idle : Int} (owner pin now : Int) (v : Value) (vec : List Int) (B' : Nat) (h : TabAt w B bt bm idle 0 []) (hB : B ≤ w.heap.size) (hv : OwnI w B' v vec) (hs : vec.length ≤ 300) :
    Calls Try.prog 27 #[.pointer (some ⟨bt, 0, none⟩), .int .u64 owner, .int .i64 pin, v, .agg #[.slice none 0 0, .slice none 0 0, .slice none 0 0], .int .u32 now] w fun e w' => ∃ b, e = .returned (.tuple #[.int .u32 1, .int .i64 0]) ∧ OneC w' B bt bm b idle (newCur owner pin vec [] [] [] now) ∧ Kt B TC True w w' :=
  open_room owner pin now v (.slice none 0 0) (.slice none 0 0) (.slice none 0 0) vec [] [] [] h hB (by simp) (by simp) (by omega) (by omega)
    (fun w' k => ⟨_, _, _, _, rfl, OwnI.ints (OwnR.kt hv k (by unfold TC; decide)), RowN.nil _ _ _, RowN.nil _ _ _, RowN.nil _ _ _⟩) ⟨by show vec.length ≤ _; omega, by simp, by simp, by simp⟩

theorem take1 {w : World} {B bt bm b : Nat} {idle : Int} {c : Cur} (a : AskC) (c' : Cur) (owner page now : Int) (ha : askOf c page = a) (hc' : { c with used := now } = c') (h : OneC w B bt bm b idle c) (hB : B ≤ w.heap.size) (ho : c.owner = owner) (hr : rightC c page = true) (hs : c.ask.small) (h0 : 0 ≤ page) (h1 : page < 4294967296) :
    Calls Try.prog 28 #[.pointer (some ⟨bt, 0, none⟩), .int .u64 owner, .int .u32 1, .int .u32 page, .int .u32 now] w fun e w' => ∃ vA vc aA ac yA yc nA nc, e = .returned (.tuple #[.agg #[.int .i64 a.pin, .slice vA a.vec.length vc, .slice aA a.al.length ac, .slice yA a.an.length yc, .slice nA a.no.length nc, .bool a.has, .int .i64 a.ld, .int .u32 a.li], .int .i64 0]) ∧ AskO w' B [.int .i64 a.pin, .slice vA a.vec.length vc, .slice aA a.al.length ac, .slice yA a.an.length yc, .slice nA a.no.length nc, .bool a.has, .int .i64 a.ld, .int .u32 a.li] a ∧ OneC w' B bt bm b idle c' ∧ Kt B TC True w w' := by
  subst ha
  subst hc'
  refine (take_ok owner page now h hB (look1 b c) ho hr hs h0 h1).mono ?_
  rintro e w' ⟨cs, rfl, hA, hC, hk⟩
  obtain ⟨v, a, y, n, rfl, t1, t2, t3, t4⟩ := id hA
  obtain ⟨vA, vc, rfl⟩ := OwnR.form t1
  obtain ⟨aA, ac, rfl⟩ := OwnR.form t2
  obtain ⟨yA, yc, rfl⟩ := OwnR.form t3
  obtain ⟨nA, nc, rfl⟩ := OwnR.form t4
  exact ⟨vA, vc, aA, ac, yA, yc, nA, nc, rfl, hA, hC, hk⟩

theorem take1_wrong {w : World} {B bt bm b : Nat} {idle : Int} {c : Cur} (owner page now : Int) (h : OneC w B bt bm b idle c) (ho : c.owner = owner) (hr : rightC c page = false) (h0 : 0 ≤ page) (h1 : page < 4294967296) :
    Calls Try.prog 28 #[.pointer (some ⟨bt, 0, none⟩), .int .u64 owner, .int .u32 1, .int .u32 page, .int .u32 now] w fun e w' => e = .returned (.tuple #[.agg zAsk, .int .i64 1]) ∧ Kp (fun _ => False) w w' :=
  take_wrong owner page now h (look1 b c) ho hr h0 h1

theorem told1 {w : World} {B bt bm b : Nat} {idle : Int} {c : Cur} (c' : Cur) (page : Int) (vh : Value) (hl : List (Int × Int)) (hc' : toldC c page hl = c') (h : OneC w B bt bm b idle c) (hr : rightC c page = true) (h0 : 0 ≤ page) (h1 : page < 4294967296)
    (harg : ∀ w', Kt B TC True w w' → Hits2 w' vh hl) :
    Calls Try.prog 29 #[.pointer (some ⟨bt, 0, none⟩), .int .u32 1, .int .u32 page, vh] w fun e w' => e = .returned (.tuple #[]) ∧ OneC w' B bt bm b idle c' ∧ Kt B TC True w w' := by
  subst hc'
  exact told_ok 1 page vh hl h (look1 b c) hr h0 h1 harg

theorem own_lit32 (w : World) (l : List Int) (hl : l.length ≤ 300) : OwnI (w.alloc (.cells (l.map fun n => Value.int .i32 n).toArray 21)) w.heap.size (.slice (some ⟨w.heap.size, 0, none⟩) l.length l.length) l := by
  have := World.ownsRow_lit (size := 1) (e := 21) (base := w.heap.size) w (l.map fun n => Value.int .i32 n).toArray l.length (Nat.le_refl _) (by simp only [maxLen]; omega) (by simp)
  unfold OwnI OwnR
  simpa using this

def hitsLit (w : World) : Value := .slice (some ⟨w.heap.size, 0, none⟩) 2 2

theorem hits_kept {w w' : World} {B : Nat} {A : Option Addr} {cap : Nat} {l : List (Int × Int)} {g : Nat} {cs : Array Value} (hb : Blk w g cs 47) (hA : A = some ⟨g, 0, none⟩) (h : Hits2 w (.slice A l.length cap) l) (k : Kt B TC True w w') : Hits2 w' (.slice A l.length cap) l := by
  obtain ⟨A1, cap1, e, h1, h2, hrow⟩ := h
  simp only [Value.slice.injEq] at e
  obtain ⟨rfl, -, rfl⟩ := e
  have hb' := hb.kt k (by unfold TC; decide)
  refine ⟨A, cap, rfl, h1, h2, fun i hi => ?_⟩
  obtain ⟨g', off, es, e1, e2, e3, e4⟩ := hrow i hi
  rw [hA] at e1
  simp only [Option.some.injEq, Addr.mk.injEq, and_true] at e1
  obtain ⟨rfl, rfl⟩ := e1
  refine ⟨g, 0, es, hA, e2, fun j hj => ?_, e4⟩
  rw [hb'.cell, ← hb.cell]
  exact e3 j hj

theorem hits_lit (w : World) (l : List (Int × Int)) (hl : l.length ≤ maxLen) (hc : (l.flatMap fun x => [Value.int .i64 x.1, Value.int .u32 x.2]).length = l.length * 2) : Hits2 (w.alloc (.cells (l.flatMap fun x => [Value.int .i64 x.1, Value.int .u32 x.2]).toArray 47)) (.slice (some ⟨w.heap.size, 0, none⟩) l.length l.length) l := by
  have key : ∀ (l : List (Int × Int)) (i : Nat) (hi : i < l.length) (j : Nat), j < 2 → (l.flatMap fun x => [Value.int .i64 x.1, Value.int .u32 x.2])[i * 2 + j]? = [Value.int .i64 l[i].1, Value.int .u32 l[i].2][j]? := by
    intro l
    induction l with
    | nil => intro i hi; simp at hi
    | cons x l ih =>
      intro i hi j hj
      cases i with
      | zero =>
        match j, hj with
        | 0, _ => rfl
        | 1, _ => rfl
      | succ i =>
        have := ih i (by simpa using hi) j hj
        rw [List.flatMap_cons, List.getElem?_append_right (by simp; omega)]
        have e : (i + 1) * 2 + j - [Value.int IntKind.i64 x.1, Value.int IntKind.u32 x.2].length = i * 2 + j := by simp; omega
        rw [e]
        exact this
  refine ⟨_, _, rfl, Nat.le_refl _, hl, fun i hi => ⟨w.heap.size, 0, _, rfl, rfl, fun j hj => ?_, rfl⟩⟩
  rw [(Blk.new w _ _).cell, Nat.zero_add]
  simpa using key l i hi j hj

def cA0 : Cur := ⟨7, ⟨5, [1], [], [], [], false, 0, 0⟩, 0, false, 0, 0, false, 0, 0, 0⟩
def cA1 : Cur := ⟨7, ⟨5, [1], [], [], [], false, 0, 0⟩, 1, true, 2, 6, false, 0, 0, 0⟩

set_option maxRecDepth 8000 in
set_option maxHeartbeats 4000000 in
theorem cursor_alive (w : World) : Calls Try.prog 25 #[] w fun e w' => e = .returned (.bool true) ∧ Kp (fun _ => False) w w' := by
  go_enter Try.func25, Try.ntmps25
  go_wp2_with fail
  refine (tab_new 9 w w.heap.size (Nat.le_refl _)).mono ?_
  rintro e w1 ⟨bt, bm, rfl, hT, k1⟩
  have kt : Kt w.heap.size TC True w w1 := Kt.of_kp k1
  have hv := own_lit32 w1 [1] (by decide)
  have hO := Lib.hid (open_first 7 5 0 _ [1] _ (hT.kp ((Kp.refl _ w1).alloc (.cells #[.int .i32 1] 21))) (by have := k1.size; simp; omega) hv (by decide))
  have kt := kt.alloc (.cells #[.int .i32 1] 21)
  clear hT hv k1
  go_wp2_with fail
  refine hO.out.mono ?_
  rintro e w2 ⟨b, rfl, hC, k2⟩
  have kt := kt.trans k2
  have hB2 : w.heap.size ≤ w2.heap.size := kt.size
  have hk := take1 ⟨5, [1], [], [], [], false, 0, 0⟩ cA0 7 1 0 rfl rfl hC hB2 rfl (by decide) ⟨by decide, by decide, by decide, by decide⟩ (by decide) (by decide)
  have hk := Lib.hid hk
  clear hO k2 hC
  go_wp2_with fail
  refine hk.out.mono ?_
  rintro e w3 ⟨vA3, vc3, aA3, ac3, yA3, yc3, nA3, nc3, rfl, -, hC, k3⟩
  have kt := kt.trans k3
  have hA := Blk.new w3 #[.int .i64 5, .slice vA3 1 vc3, .slice aA3 0 ac3, .slice yA3 0 yc3, .slice nA3 0 nc3, .bool false, .int .i64 0, .int .u32 0] 49
  have kt := kt.alloc (.cells #[.int .i64 5, .slice vA3 1 vc3, .slice aA3 0 ac3, .slice yA3 0 yc3, .slice nA3 0 nc3, .bool false, .int .i64 0, .int .u32 0] 49)
  have hC := (hC.kp ((Kp.refl _ w3).alloc (.cells #[.int .i64 5, .slice vA3 1 vc3, .slice aA3 0 ac3, .slice yA3 0 yc3, .slice nA3 0 nc3, .bool false, .int .i64 0, .int .u32 0] 49))).kp ((Kp.refl _ _).alloc (.cells #[.int .i64 1, .int .u32 5, .int .i64 2, .int .u32 6] 47))
  have hH : Hits2 ((w3.alloc (.cells #[.int .i64 5, .slice vA3 1 vc3, .slice aA3 0 ac3, .slice yA3 0 yc3, .slice nA3 0 nc3, .bool false, .int .i64 0, .int .u32 0] 49)).alloc (.cells #[.int .i64 1, .int .u32 5, .int .i64 2, .int .u32 6] 47)) (.slice (some ⟨w3.heap.size + 1, 0, none⟩) 2 2) [(1, 5), (2, 6)] := by
    have := hits_lit (w3.alloc (.cells #[.int .i64 5, .slice vA3 1 vc3, .slice aA3 0 ac3, .slice yA3 0 yc3, .slice nA3 0 nc3, .bool false, .int .i64 0, .int .u32 0] 49)) [(1, 5), (2, 6)] (by decide) rfl
    simpa using this
  have hHb := Blk.new (w3.alloc (.cells #[.int .i64 5, .slice vA3 1 vc3, .slice aA3 0 ac3, .slice yA3 0 yc3, .slice nA3 0 nc3, .bool false, .int .i64 0, .int .u32 0] 49)) #[.int .i64 1, .int .u32 5, .int .i64 2, .int .u32 6] 47
  rw [show (w3.alloc (.cells #[.int .i64 5, .slice vA3 1 vc3, .slice aA3 0 ac3, .slice yA3 0 yc3, .slice nA3 0 nc3, .bool false, .int .i64 0, .int .u32 0] 49)).heap.size = w3.heap.size + 1 by simp] at hHb
  have hA := hA.alloc (.cells #[.int .i64 1, .int .u32 5, .int .i64 2, .int .u32 6] 47)
  have kt := kt.alloc (.cells #[.int .i64 1, .int .u32 5, .int .i64 2, .int .u32 6] 47)
  have hD := Lib.hid (told1 cA1 1 _ [(1, 5), (2, 6)] rfl hC (by decide) (by decide) (by decide) (fun w' k => hits_kept hHb rfl hH k))
  clear hk k3 hC hH hHb
  go_wp2_with fail
  refine hD.out.mono ?_
  rintro e w4 ⟨rfl, hC, k4⟩
  have kt := kt.trans k4
  have hA := hA.kt k4 (by unfold TC; decide)
  have hB4 : w.heap.size ≤ w4.heap.size := kt.size
  have hk := Lib.hid (take1 ⟨5, [1], [], [], [], true, 2, 6⟩ cA1 7 2 0 rfl rfl hC hB4 rfl (by decide) ⟨by decide, by decide, by decide, by decide⟩ (by decide) (by decide))
  clear hD k4 hC
  generalize hga : w3.heap.size = ga at *
  clear hga
  go_wp2_with fail
  refine hk.out.mono ?_
  rintro e w5 ⟨vA5, vc5, aA5, ac5, yA5, yc5, nA5, nc5, rfl, -, hC, k5⟩
  have kt := kt.trans k5
  have hA := (hA.kt k5 (by unfold TC; decide)).alloc (.cells #[.int .i64 5, .slice vA5 1 vc5, .slice aA5 0 ac5, .slice yA5 0 yc5, .slice nA5 0 nc5, .bool true, .int .i64 2, .int .u32 6] 49)
  have hE := Blk.new w5 #[.int .i64 5, .slice vA5 1 vc5, .slice aA5 0 ac5, .slice yA5 0 yc5, .slice nA5 0 nc5, .bool true, .int .i64 2, .int .u32 6] 49
  have kt := kt.alloc (.cells #[.int .i64 5, .slice vA5 1 vc5, .slice aA5 0 ac5, .slice yA5 0 yc5, .slice nA5 0 nc5, .bool true, .int .i64 2, .int .u32 6] 49)
  have hC := hC.kp ((Kp.refl _ w5).alloc (.cells #[.int .i64 5, .slice vA5 1 vc5, .slice aA5 0 ac5, .slice yA5 0 yc5, .slice nA5 0 nc5, .bool true, .int .i64 2, .int .u32 6] 49))
  have hB5 : w.heap.size ≤ (w5.alloc (.cells #[.int .i64 5, .slice vA5 1 vc5, .slice aA5 0 ac5, .slice yA5 0 yc5, .slice nA5 0 nc5, .bool true, .int .i64 2, .int .u32 6] 49)).heap.size := kt.size
  have hk2 := Lib.hid (take1 ⟨5, [1], [], [], [], false, 0, 0⟩ cA1 7 1 0 rfl rfl hC hB5 rfl (by decide) ⟨by decide, by decide, by decide, by decide⟩ (by decide) (by decide))
  clear hk k5 hC
  go_wp2_with fail
  refine hk2.out.mono ?_
  rintro e w6 ⟨vA6, vc6, aA6, ac6, yA6, yc6, nA6, nc6, rfl, -, hC, k6⟩
  have kt := kt.trans k6
  have hA := (hA.kt k6 (by unfold TC; decide)).alloc (.cells #[.int .i64 5, .slice vA6 1 vc6, .slice aA6 0 ac6, .slice yA6 0 yc6, .slice nA6 0 nc6, .bool false, .int .i64 0, .int .u32 0] 49)
  have hE := (hE.kt k6 (by unfold TC; decide)).alloc (.cells #[.int .i64 5, .slice vA6 1 vc6, .slice aA6 0 ac6, .slice yA6 0 yc6, .slice nA6 0 nc6, .bool false, .int .i64 0, .int .u32 0] 49)
  have hG := Blk.new w6 #[.int .i64 5, .slice vA6 1 vc6, .slice aA6 0 ac6, .slice yA6 0 yc6, .slice nA6 0 nc6, .bool false, .int .i64 0, .int .u32 0] 49
  have kt := kt.alloc (.cells #[.int .i64 5, .slice vA6 1 vc6, .slice aA6 0 ac6, .slice yA6 0 yc6, .slice nA6 0 nc6, .bool false, .int .i64 0, .int .u32 0] 49)
  have hC := hC.kp ((Kp.refl _ w6).alloc (.cells #[.int .i64 5, .slice vA6 1 vc6, .slice aA6 0 ac6, .slice yA6 0 yc6, .slice nA6 0 nc6, .bool false, .int .i64 0, .int .u32 0] 49))
  have hk3 := Lib.hid (take1_wrong 7 3 0 hC rfl (by decide) (by decide) (by decide))
  clear hk2 k6 hC
  generalize hgb : w5.heap.size = gb at *
  clear hgb
  go_wp2_with fail
  refine hk3.out.mono ?_
  rintro e w7 ⟨rfl, k7⟩
  unfold zAsk
  have kt := kt.kp k7
  have hA := hA.kp k7 id
  have hE := hE.kp k7 id
  have hG := hG.kp k7 id
  clear hk3 k7
  generalize hgc : w6.heap.size = gc at *
  clear hgc
  have a0 := (hA.cell 0).trans rfl
  have a5 := (hA.cell 5).trans rfl
  have b5 := (hE.cell 5).trans rfl
  have b6 := (hE.cell 6).trans rfl
  have b7 := (hE.cell 7).trans rfl
  have g5 := (hG.cell 5).trans rfl
  have la := hA.lt
  have lb := hE.lt
  have lc := hG.lt
  have kt := kt.alloc (.cells zAsk 49)
  go_wp2_with fail
  go_ret
  exact ⟨rfl, Kp.of_below _ (kt.below (Nat.le_refl _))⟩
end Go.Proofs.Ytcamhpjgpjihhaa

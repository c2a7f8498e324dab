/- The reference's table of cursors: Open. (Printed by gen_rf6.py.) -/
import Derived.Test.YtcamhpjgpjihhaaRf5
namespace Go.Proofs.Ytcamhpjgpjihhaa
set_option linter.unusedVariables false
set_option linter.unusedSimpArgs false
open Go.RowKit
attribute [local go_sem ↓] loadC
attribute [local go_sem] isPtrA_ptr adrOf_ptr

/-- t.L = append(t.L, a cursor's cells). -/
theorem RTab.push {w0 w W w4 : World} {B c : Nat} {idle last : Int} {rs : List RC} {v v1 : Value} {ms : List (List Value)} {row : List Value} {r : RC} (hc : B ≤ c) (p1 : Blk w c #[.int .u32 idle, v, .int .u32 last] 70) (p2 : RowsO 80 12 w B v ms) (p3 : Par (RowC w0 w B) ms rs)
    (kW : Kp (fun _ => False) w W) (hr : RowC w0 W B row r) (hown : w4.ownsRow B 80 12 v1 (ms.length + 1) (ms.flatten ++ row)) (hg : W.grownBy w4 v.ownBlock) :
    RTab w0 (w4.setCell ⟨c, 1, none⟩ v1) B c idle last (rs ++ [r]) ∧ Kt B TR False w (w4.setCell ⟨c, 1, none⟩ v1) := by
  have kI := ((Kt.of_kp (B := B) (T := fun t => t = 80) (M := False) kW)).grown (p2.kp kW).1 (Nat.le_refl _) rfl hg
  have kJ := (Kt.refl (B := B) (T := fun t => t = 80) (M := False) W).grown (p2.kp kW).1 (Nat.le_refl _) rfl hg
  have b4 := p1.kt kI (by decide)
  have kS := (Kt.refl (B := B) (T := fun t => t = 70) (M := False) w4).setCell b4 rfl hc 1 v1
  refine ⟨⟨hc, v1, ms ++ [row], b4.set 1 v1, (p2.push hown hr.one.1 hr.one.2).kt kS (by decide), ?_⟩, (kI.mono (Nat.le_refl _) (fun _ h => .inr h) id).trans (kS.mono (Nat.le_refl _) (fun _ h => .inl h) id)⟩
  exact ((p3.mono fun _ _ q => (q.kt kI (by decide)).kt kS (by decide)).snoc ((hr.kt kJ (by decide)).kt kS (by decide)))
/-- t.Last = t.Last + 1. -/
theorem RTab.last {w0 w : World} {B c : Nat} {idle last : Int} {rs : List RC} (h : RTab w0 w B c idle last rs) (n : Int) : RTab w0 (w.setCell ⟨c, 2, none⟩ (.int .u32 n)) B c idle n rs ∧ Kt B TR False w (w.setCell ⟨c, 2, none⟩ (.int .u32 n)) := by
  obtain ⟨hc, v, ms, h1, q1, q2⟩ := h
  have k := (Kt.refl (B := B) (T := fun t => t = 70) (M := False) w).setCell h1 rfl hc 2 (.int .u32 n)
  exact ⟨⟨hc, v, ms, h1.set 2 _, q1.kt k (by decide), q2.mono fun _ _ q => q.kt k (by decide)⟩, k.mono (Nat.le_refl _) (fun _ h => .inl h) id⟩

def newR (n owner pin : Int) (vec : List Int) (al an no : List ByteArray) (now : Int) : RC := ⟨n, owner, ⟨pin, vec, al, an, no, false, 0, 0⟩, [(false, 0, 0)], now⟩
def ROpenPost (w0 w : World) (B c : Nat) (idle last : Int) (gone : Int) (rs : List RC) (e : Ending) (w' : World) : Prop :=
  e = .returned (.tuple #[.int .u32 last, .int .i64 gone]) ∧ RTab w0 w' B c idle last rs ∧ Kt B TR False w w'

set_option maxRecDepth 8000 in
set_option maxHeartbeats 4000000 in
theorem r14_open_room {w0 w : World} {B c : Nat} {idle last : Int} {rs : List RC} (owner pin now : Int) (v a y n : Value) (vec : List Int) (al an no : List ByteArray) (h : RTab w0 w B c idle last rs) (hB : B ≤ w.heap.size) (hl : rs.length < 8) (h0 : 0 ≤ last) (h1 : last < 4294967295)
    (harg : AskR w0 [.int .i64 pin, v, a, y, n, .bool false, .int .i64 0, .int .u32 0] ⟨pin, vec, al, an, no, false, 0, 0⟩) :
    Calls Try.prog 37 #[.pointer (some ⟨c, 0, none⟩), .int .u64 owner, .int .i64 pin, v, .agg #[a, y, n], .int .u32 now] w (ROpenPost w0 w B c idle (last + 1) 0 (rs ++ [newR (last + 1) owner pin vec al an no now])) := by
  obtain ⟨A, cap, c1, c0, c2⟩ := h.slice
  have hL := Lib.hid (h.last (last + 1))
  have hcl : c < w.heap.size := cell_block c1
  have hcn : ¬ c = w.heap.size := by omega
  obtain ⟨vt, hTb⟩ := h.blk
  have f2 := hTb.frozen 2
  have hwr : IntKind.u32.wrap (last + 1) = last + 1 := by rw [show IntKind.u32.wrap (last + 1) = (last + 1) % 4294967296 from rfl]; omega
  have e8 : decide ((8 : Int) ≤ (rs.length : Int)) = false := decide_eq_false (by omega)
  have hargH := Lib.hid harg
  obtain ⟨v', a', y', n', heq, i1, i2, i3, i4⟩ := harg
  simp only [List.cons.injEq, and_true, true_and] at heq
  obtain ⟨rfl, rfl, rfl, rfl⟩ := heq
  obtain ⟨VA, vc, rfl, -⟩ := i1.one
  obtain ⟨AA, ac, rfl, -⟩ := i2.one
  obtain ⟨YA, yc, rfl, -⟩ := i3.one
  obtain ⟨NA, nc, rfl, -⟩ := i4.one
  have g1 : (w.setCell ⟨c, 2, none⟩ (.int .u32 (last + 1))).cell? ⟨c, 1, none⟩ = some (.slice A rs.length cap) := by
    rw [World.cell?_setCell_other _ _ _ _ (by simp)]
    exact c1
  clear h hTb i1 i2 i3 i4
  go_enter Try.func37, Try.ntmps37
  go_wp2_with fail
  have hR := (hL.out.1).kp ((Kp.refl _ _).alloc (.cells #[(.slice AA al.length ac), (.slice YA an.length yc), (.slice NA no.length nc)] 24))
  obtain ⟨hBc, vT, ms, p1, p2, p3⟩ := id hL.out.1
  have hvT := (p1.cell 1).symm.trans g1
  simp only [List.getElem?_toArray, List.getElem?_cons_succ, List.getElem?_cons_zero, Option.some.injEq] at hvT
  subst hvT
  have hn := Lib.hid p3.1
  have hown := p2.1
  rw [hn.out] at hown
  obtain ⟨_, _, -, -, g2⟩ := hL.out.1.slice
  have hsz : (w.setCell ⟨c, 2, none⟩ (.int .u32 (last + 1))).heap.size = w.heap.size := by simp
  have hlenB : rs.length ≤ 8 := by omega
  generalize hS : w.setCell ⟨c, 2, none⟩ (.int .u32 (last + 1)) = S at *
  clear hS
  have hcS : ¬ c = S.heap.size := by rw [hsz]; exact hcn
  have hcL : c < S.heap.size := by rw [hsz]; exact hcl
  have hc1' : ¬ c = w.heap.size + 1 := by omega
  have hc2' : ¬ c = w.heap.size + 2 := by omega
  have hc3' : ¬ c = w.heap.size + 1 + 1 := by omega
  have hcl1 : c < w.heap.size + 1 := by omega
  have hcl2 : c < w.heap.size + 2 := by omega
  have hcl3 : c < w.heap.size + 1 + 1 := by omega
  obtain ⟨i0, hi0, hz0, hz1, hz2⟩ := info_parts infoC
  have hI := Lib.hid (And.intro hi0 (And.intro hz0 (And.intro hz1 hz2)))
  clear hi0 hz0 hz1 hz2
  have kA := (((Kp.refl (fun _ => False) S).alloc (.cells #[(.slice AA al.length ac), (.slice YA an.length yc), (.slice NA no.length nc)] 24)).alloc (.cells #[.bool false, .int .i64 0, .int .u32 0] 113)).alloc (.cells #[.int .u32 (last + 1), .int .u64 owner, .int .i64 pin, .slice VA vec.length vc, (.slice AA al.length ac), (.slice YA an.length yc), (.slice NA no.length nc), .bool false, .int .i64 0, .int .u32 0, .slice (some ⟨w.heap.size + 1, 0, none⟩) 1 1, .int .u32 now] 80)
  have hE1 : Blk (((S.alloc (.cells #[(.slice AA al.length ac), (.slice YA an.length yc), (.slice NA no.length nc)] 24)).alloc (.cells #[.bool false, .int .i64 0, .int .u32 0] 113)).alloc (.cells #[.int .u32 (last + 1), .int .u64 owner, .int .i64 pin, .slice VA vec.length vc, (.slice AA al.length ac), (.slice YA an.length yc), (.slice NA no.length nc), .bool false, .int .i64 0, .int .u32 0, .slice (some ⟨w.heap.size + 1, 0, none⟩) 1 1, .int .u32 now] 80)) (w.heap.size + 1) #[.bool false, .int .i64 0, .int .u32 0] 113 := by
    have := (Blk.new (S.alloc (.cells #[(.slice AA al.length ac), (.slice YA an.length yc), (.slice NA no.length nc)] 24)) #[.bool false, .int .i64 0, .int .u32 0] 113).alloc (.cells #[.int .u32 (last + 1), .int .u64 owner, .int .i64 pin, .slice VA vec.length vc, (.slice AA al.length ac), (.slice YA an.length yc), (.slice NA no.length nc), .bool false, .int .i64 0, .int .u32 0, .slice (some ⟨w.heap.size + 1, 0, none⟩) 1 1, .int .u32 now] 80)
    rw [show (S.alloc (.cells #[(.slice AA al.length ac), (.slice YA an.length yc), (.slice NA no.length nc)] 24)).heap.size = w.heap.size + 1 by simp [hsz]] at this
    exact this
  have hC1 : Blk (((S.alloc (.cells #[(.slice AA al.length ac), (.slice YA an.length yc), (.slice NA no.length nc)] 24)).alloc (.cells #[.bool false, .int .i64 0, .int .u32 0] 113)).alloc (.cells #[.int .u32 (last + 1), .int .u64 owner, .int .i64 pin, .slice VA vec.length vc, (.slice AA al.length ac), (.slice YA an.length yc), (.slice NA no.length nc), .bool false, .int .i64 0, .int .u32 0, .slice (some ⟨w.heap.size + 1, 0, none⟩) 1 1, .int .u32 now] 80)) (w.heap.size + 2) #[.int .u32 (last + 1), .int .u64 owner, .int .i64 pin, .slice VA vec.length vc, (.slice AA al.length ac), (.slice YA an.length yc), (.slice NA no.length nc), .bool false, .int .i64 0, .int .u32 0, .slice (some ⟨w.heap.size + 1, 0, none⟩) 1 1, .int .u32 now] 80 := by
    have := Blk.new ((S.alloc (.cells #[(.slice AA al.length ac), (.slice YA an.length yc), (.slice NA no.length nc)] 24)).alloc (.cells #[.bool false, .int .i64 0, .int .u32 0] 113)) #[.int .u32 (last + 1), .int .u64 owner, .int .i64 pin, .slice VA vec.length vc, (.slice AA al.length ac), (.slice YA an.length yc), (.slice NA no.length nc), .bool false, .int .i64 0, .int .u32 0, .slice (some ⟨w.heap.size + 1, 0, none⟩) 1 1, .int .u32 now] 80
    rw [show ((S.alloc (.cells #[(.slice AA al.length ac), (.slice YA an.length yc), (.slice NA no.length nc)] 24)).alloc (.cells #[.bool false, .int .i64 0, .int .u32 0] 113)).heap.size = w.heap.size + 2 by simp [hsz]] at this
    exact this
  have hnews := World.news_of_block (fr := (0, 0)) hC1
  have hendO : EndsO (((S.alloc (.cells #[(.slice AA al.length ac), (.slice YA an.length yc), (.slice NA no.length nc)] 24)).alloc (.cells #[.bool false, .int .i64 0, .int .u32 0] 113)).alloc (.cells #[.int .u32 (last + 1), .int .u64 owner, .int .i64 pin, .slice VA vec.length vc, (.slice AA al.length ac), (.slice YA an.length yc), (.slice NA no.length nc), .bool false, .int .i64 0, .int .u32 0, .slice (some ⟨w.heap.size + 1, 0, none⟩) 1 1, .int .u32 now] 80)) B (.slice (some ⟨w.heap.size + 1, 0, none⟩) 1 1) [(false, 0, 0)] := by
    refine ⟨⟨rfl, .inr ⟨w.heap.size + 1, 1, _, rfl, by omega, hE1, by simp, by simp [maxLen], rfl, rfl⟩⟩, ?_⟩
    intro m hm
    simp at hm
    subst hm
    exact ⟨rfl, rfl⟩
  have hrow : RowC w0 (((S.alloc (.cells #[(.slice AA al.length ac), (.slice YA an.length yc), (.slice NA no.length nc)] 24)).alloc (.cells #[.bool false, .int .i64 0, .int .u32 0] 113)).alloc (.cells #[.int .u32 (last + 1), .int .u64 owner, .int .i64 pin, .slice VA vec.length vc, (.slice AA al.length ac), (.slice YA an.length yc), (.slice NA no.length nc), .bool false, .int .i64 0, .int .u32 0, .slice (some ⟨w.heap.size + 1, 0, none⟩) 1 1, .int .u32 now] 80)) B (#[.int .u32 (last + 1), .int .u64 owner, .int .i64 pin, .slice VA vec.length vc, (.slice AA al.length ac), (.slice YA an.length yc), (.slice NA no.length nc), .bool false, .int .i64 0, .int .u32 0, .slice (some ⟨w.heap.size + 1, 0, none⟩) 1 1, .int .u32 now] : Array Value).toList (newR (last + 1) owner pin vec al an no now) :=
    ⟨_, _, _, _, _, rfl, hargH.out, hendO⟩
  have hrowH := Lib.hid hrow
  have hnewsH := Lib.hid hnews
  have h1H := Lib.hid hrow.one
  have e1 := kA.cell0 g1
  have e2 := kA.cell0 g2
  have hbl := (p1.kp kA id)
  have ef := hbl.frozen 1
  have hcne : ∀ gg, (Value.slice A rs.length cap).ownBlock = some gg → gg ≠ c := own_ne_blk (own_kp hown kA (fun _ _ h => h)) hbl (by decide)
  have eH := Lib.hid (And.intro e1 (And.intro ef (And.intro hcne e2)))
  have hown2 := Lib.hid (own_kp hown kA (fun _ _ h => h))
  have hP := Lib.hid (And.intro hBc (And.intro p1 (And.intro p2 p3)))
  have kAH := Lib.hid kA
  have hbase : B ≤ (((S.alloc (.cells #[(.slice AA al.length ac), (.slice YA an.length yc), (.slice NA no.length nc)] 24)).alloc (.cells #[.bool false, .int .i64 0, .int .u32 0] 113)).alloc (.cells #[.int .u32 (last + 1), .int .u64 owner, .int .i64 pin, .slice VA vec.length vc, (.slice AA al.length ac), (.slice YA an.length yc), (.slice NA no.length nc), .bool false, .int .i64 0, .int .u32 0, .slice (some ⟨w.heap.size + 1, 0, none⟩) 1 1, .int .u32 now] 80)).drew.drew.heap.size := by simp [hsz]; omega
  clear p2 p3 hown hR hE1 hC1 hnews hendO hrow e1 e2 ef hcne hbl kA
  go_region_law
    ((refine step_append_lies _ (by rfl) _ _ _ (by rfl) B 80 i0 zC 12 176 Try.underlying68 hI.out.1 hI.out.2.1 hI.out.2.2.1 hI.out.2.2.2 rfl (by omega) (.slice A rs.length cap) rs.length ms.flatten (by rfl) hown2.out ⟨w.heap.size + 2, 0, none⟩ 1 1 (#[.int .u32 (last + 1), .int .u64 owner, .int .i64 pin, .slice VA vec.length vc, (.slice AA al.length ac), (.slice YA an.length yc), (.slice NA no.length nc), .bool false, .int .i64 0, .int .u32 0, .slice (some ⟨w.heap.size + 1, 0, none⟩) 1 1, .int .u32 now] : Array Value).toList (by rfl) (by rfl) hnewsH.out (List.all_eq_true.1 h1H.out.2) (by omega) (by simp only [maxLen]; omega) (by omega) hbase (w.heap.size + 3) (by simp [hsz]) ?_; intro gg capg w4 hown4 hgrow hat hlt4; have d1 := (hgrow.cell_far ⟨c, 1, none⟩ (by simp [hsz]; omega) (fun e => eH.out.2.2.1 c e.symm rfl)).trans eH.out.1; have df := (hgrow.frozen_far ⟨c, 1, none⟩ (by simp [hsz]; omega) (fun e => eH.out.2.2.1 c e.symm rfl)).trans eH.out.2.1; have d2 := (hgrow.cell_far ⟨c, 2, none⟩ (by simp [hsz]; omega) (fun e => eH.out.2.2.1 c e.symm rfl)).trans eH.out.2.2.2))
  all_goals
    have hfin : RTab w0 (w4.setCell ⟨c, 1, none⟩ (.slice (some ⟨gg, 0, none⟩) (rs.length + 1) capg)) B c idle (last + 1) (rs ++ [newR (last + 1) owner pin vec al an no now]) ∧ Kt B TR False S (w4.setCell ⟨c, 1, none⟩ (.slice (some ⟨gg, 0, none⟩) (rs.length + 1) capg)) := by
      first
      | exact RTab.push hP.out.1 hP.out.2.1 hP.out.2.2.1 hP.out.2.2.2 (kAH.out.drew) hrowH.out (by rw [hn.out]; exact hown4) hgrow
      | exact RTab.push hP.out.1 hP.out.2.1 hP.out.2.2.1 hP.out.2.2.2 (kAH.out) hrowH.out (by rw [hn.out]; exact hown4) hgrow
      | exact RTab.push hP.out.1 hP.out.2.1 hP.out.2.2.1 hP.out.2.2.2 (kAH.out.drew.drew) hrowH.out (by rw [hn.out]; exact hown4) hgrow
      | exact RTab.push hP.out.1 hP.out.2.1 hP.out.2.2.1 hP.out.2.2.2 (kAH.out.drew.drew.drew) hrowH.out (by rw [hn.out]; exact hown4) hgrow
    have hfinH := Lib.hid hfin
    clear hown4 hgrow hfin
    go_wp2_with fail
    go_ret2
    exact ⟨rfl, hfinH.out.1, hL.out.2.trans hfinH.out.2⟩

end Go.Proofs.Ytcamhpjgpjihhaa

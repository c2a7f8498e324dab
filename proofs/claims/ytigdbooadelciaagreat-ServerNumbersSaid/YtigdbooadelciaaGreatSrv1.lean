/- The server while there are only new connections: New, Accept, Close. -/
import Derived.Test.YtigdbooadelciaaGreatSes2
import Derived.Test.YtigdbooadelciaaGreatOvr
import Derived.Test.YtigdbooadelciaaGreatExt
namespace Go.Proofs.YtigdbooadelciaaGreat
set_option linter.unusedVariables false
set_option linter.unusedSimpArgs false
open Go.RowKit

theorem new_run : obsN (evCallN Tryz.prog extX crcO 100 50 6 [.agg #[.slice none 0 0, .int .i64 4, .int .u32 3, .int .u32 100, .int .u32 100, .int .u32 20]] st0) [18, 20, 22, 24, 26, 28] =
    some (.pointer (some ⟨28, 0, none⟩), [some (.cells [.slice none 0 0, .pointer (some ⟨6, 0, none⟩), .map (some 8), .pointer (some ⟨12, 0, none⟩), .pointer (some ⟨16, 0, none⟩), .int .u64 0] 108), some (.mapI .i64 []), some (.mapI .u64 []), some (.cells [.int .u32 3, .int .i64 4, .int .u32 100, .map (some 20), .map (some 22), .int .u64 0] 112), some (.mapI .i64 []),
      some (.cells [.slice none 0 0, .int .i64 4, .int .u32 3, .int .u32 100, .int .u32 100, .int .u32 20, .pointer (some ⟨18, 0, none⟩), .pointer (some ⟨24, 0, none⟩), .map (some 26), .int .i64 0, .int .u32 0, .slice none 0 0] 67)], true) := by kernel_rfl
theorem fnew_run : obsN (evCallN Tryz.prog extX crcO 100 50 22 [] st0) [2] = some (.pointer (some ⟨2, 0, none⟩), [some (.cells [.slice none 0 0, .int .i64 0, .pointer (some ⟨0, 0, none⟩)] 124)], true) := by kernel_rfl
theorem set_run : evOk (evCallN Tryz.prog extX noOvr 100 50 7 [.slice none 0 0, .int .i64 4, .int .u32 100, .int .u32 100] st0) = some (.agg #[.slice none 0 0, .int .i64 4, .int .u32 3, .int .u32 100, .int .u32 100, .int .u32 20]) := by kernel_rfl

theorem set_calls (w : World) : Calls Tryz.prog 7 #[.slice none 0 0, .int .i64 4, .int .u32 100, .int .u32 100] w fun e w' => e = .returned (.agg #[.slice none 0 0, .int .i64 4, .int .u32 3, .int .u32 100, .int .u32 100, .int .u32 20]) ∧ Kp (fun _ => False) w w' := by
  refine (ev_closed mixed extX_ok set_run rfl rfl w).mono ?_
  rintro e w' ⟨rfl, h⟩
  exact ⟨rfl, Kp.of_below _ h⟩
theorem fnew_calls (w : World) : Calls Tryz.prog 22 #[] w fun e w' => ∃ b, e = .returned (.pointer (some ⟨b, 0, none⟩)) ∧ Kp (fun _ => False) w w' := by
  refine (ev_new mixed extX_ok (crcO_ok _) fnew_run (avs := []) (fun _ => rfl)).mono ?_
  rintro e w' ⟨R, v', h', rfl, ⟨l, h1, rfl⟩, hS, hobj⟩
  simp only [List.map_cons, List.map_nil, List.cons.injEq, and_true] at hobj
  obtain ⟨l2, u2, a1, a2, _⟩ := hS.obj 2 _ trivial hobj
  simp only at h1
  rw [h1] at a1
  cases a1
  exact ⟨l.blk, by simp only [a2, Nat.zero_add], Kp.of_below _ hS.bas⟩

def kptr (l : List (Int × Nat)) : List (Int × Value) := l.map fun p => (p.1, .pointer (some ⟨p.2, 0, none⟩))
def srvCells (be bh bm : Nat) (last : Int) : Array Value := #[.slice none 0 0, .int .i64 4, .int .u32 3, .int .u32 100, .int .u32 100, .int .u32 20, .pointer (some ⟨be, 0, none⟩), .pointer (some ⟨bh, 0, none⟩), .map (some bm), .int .i64 last, .int .u32 0, .slice none 0 0]
structure NumAt (w : World) (B bs be bh bm bc bl : Nat) (last : Int) (ks : List (Int × Nat)) (cs : ConL) : Prop where
  blk : Blk w bs (srvCells be bh bm last) 67
  km : MapAt w bm kvI (kptr ks)
  hub : HubAt w B bh bc bl 3 4 100 0 cs []
  new : ∀ p ∈ cs, p.2.2 = none
  keys : ks.map (·.1) = cs.map (·.1)
  bds : ∀ p ∈ cs, 1 ≤ p.1 ∧ p.1 ≤ last
  ne1 : bm ≠ bc
  ne2 : bm ≠ bl
  hbs : B ≤ bs
  hbm : B ≤ bm

theorem new_calls (w : World) : Calls Tryz.prog 6 #[.agg #[.slice none 0 0, .int .i64 4, .int .u32 3, .int .u32 100, .int .u32 100, .int .u32 20]] w fun e w' => ∃ bs be bh bm bc bl, e = .returned (.pointer (some ⟨bs, 0, none⟩)) ∧ NumAt w' w.heap.size bs be bh bm bc bl 0 [] [] ∧ Kp (fun _ => False) w w' := by
  refine (ev_new mixed extX_ok (crcO_ok _) new_run (fun R => (VRs.flat rfl).2 rfl)).mono ?_
  rintro e w' ⟨R, v', h', rfl, ⟨l, h1, rfl⟩, hS, hobj⟩
  simp only [List.map_cons, List.map_nil, List.cons.injEq, and_true] at hobj
  obtain ⟨o18, o20, o22, o24, o26, o28⟩ := hobj
  obtain ⟨l18, u18, f1, f2, f3, f4, f5⟩ := hS.obj 18 _ trivial o18
  obtain ⟨l20, m20, a1, a2, a3⟩ := hS.obj 20 _ trivial o20
  obtain ⟨l22, m22, b1, b2, b3⟩ := hS.obj 22 _ trivial o22
  obtain ⟨l26, m26, c1, c2, c3⟩ := hS.obj 26 _ trivial o26
  obtain ⟨l24, u24, d1, d2, d3, d4, d5⟩ := hS.obj 24 _ trivial o24
  obtain ⟨l28, u28, e1, e2, e3, e4, e5⟩ := hS.obj 28 _ trivial o28
  rw [VRm.nil_left] at a2 b2 c2
  subst a2 b2 c2
  obtain ⟨_, _, rfl, ⟨_, _, rfl, ⟨_, _, rfl, ⟨_, _, ⟨la, ha, rfl⟩, ⟨_, _, ⟨lb, hb, rfl⟩, ⟨_, _, rfl, rfl, rfl⟩, rfl⟩, rfl⟩, rfl⟩, rfl⟩, rfl⟩ := d4
  obtain ⟨_, _, rfl, ⟨_, _, rfl, ⟨_, _, rfl, ⟨_, _, rfl, ⟨_, _, rfl, ⟨_, _, rfl, ⟨_, _, ⟨le, he, rfl⟩, ⟨_, _, ⟨lh, hh, rfl⟩, ⟨_, _, ⟨lm, hm, rfl⟩, ⟨_, _, rfl, ⟨_, _, rfl, ⟨_, _, rfl, rfl, rfl⟩, rfl⟩, rfl⟩, rfl⟩, rfl⟩, rfl⟩, rfl⟩, rfl⟩, rfl⟩, rfl⟩, rfl⟩, rfl⟩ := e4
  simp only at h1 ha hb he hh hm
  obtain rfl : l28 = l := by rw [e1] at h1; exact Option.some.inj h1
  obtain rfl : l20 = la := by rw [a1] at ha; exact Option.some.inj ha
  obtain rfl : l22 = lb := by rw [b1] at hb; exact Option.some.inj hb
  obtain rfl : l26 = lm := by rw [c1] at hm; exact Option.some.inj hm
  obtain rfl : l24 = lh := by rw [d1] at hh; exact Option.some.inj hh
  have q20 := hS.low 20 _ l20 trivial o20 rfl a1
  have q22 := hS.low 22 _ l22 trivial o22 rfl b1
  have q24 := hS.low 24 _ l24 trivial o24 rfl d1
  have q26 := hS.low 26 _ l26 trivial o26 rfl c1
  have q28 := hS.low 28 _ l28 trivial o28 rfl e1
  have n1 := hS.inj 20 22 _ _ l20 l22 trivial trivial (by decide) o20 o22 rfl rfl (.inl rfl) a1 b1
  have n2 := hS.inj 26 20 _ _ l26 l20 trivial trivial (by decide) o26 o20 rfl rfl (.inl rfl) c1 a1
  have n3 := hS.inj 26 22 _ _ l26 l22 trivial trivial (by decide) o26 o22 rfl rfl (.inl rfl) c1 b1
  simp only [e2, d2, Nat.add_zero, Nat.zero_add] at e5 ⊢
  refine ⟨l28.blk, l18.blk, l24.blk, l26.blk, l20.blk, l22.blk, rfl, ?_, Kp.of_below _ hS.bas⟩
  obtain rfl : l18 = le := by rw [f1] at he; exact Option.some.inj he
  have hoff := f2
  rw [hoff] at e5
  exact ⟨e5, c3, ⟨d5, a3, b3, by simp, by simp, q24, q20, q22, by simpa using n1, by simp, by simp, by simp, by simp⟩, by simp, rfl, by simp, n2, n3, q28, q26⟩
end Go.Proofs.YtigdbooadelciaaGreat

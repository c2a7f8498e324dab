/- ServerIdle: a message's way by contract. -/
import Derived.Test.YtigdbooadelciaaGreatIdle2
import Derived.Test.YtigdbooadelciaaGreatIdleR0
import Derived.Test.YtigdbooadelciaaGreatIdleR1
import Derived.Test.YtigdbooadelciaaGreatIdleQ
namespace Go.Proofs.YtigdbooadelciaaGreat
set_option linter.unusedVariables false
set_option linter.unusedSimpArgs false
open Go.RowKit
theorem allFr : ∀ n, n < 40 → FrRun n
  | 0, _ => runFrRun0
  | 1, _ => runFrRun1
  | 2, _ => runFrRun2
  | 3, _ => runFrRun3
  | 4, _ => runFrRun4
  | 5, _ => runFrRun5
  | 6, _ => runFrRun6
  | 7, _ => runFrRun7
  | 8, _ => runFrRun8
  | 9, _ => runFrRun9
  | 10, _ => runFrRun10
  | 11, _ => runFrRun11
  | 12, _ => runFrRun12
  | 13, _ => runFrRun13
  | 14, _ => runFrRun14
  | 15, _ => runFrRun15
  | 16, _ => runFrRun16
  | 17, _ => runFrRun17
  | 18, _ => runFrRun18
  | 19, _ => runFrRun19
  | 20, _ => runFrRun20
  | 21, _ => runFrRun21
  | 22, _ => runFrRun22
  | 23, _ => runFrRun23
  | 24, _ => runFrRun24
  | 25, _ => runFrRun25
  | 26, _ => runFrRun26
  | 27, _ => runFrRun27
  | 28, _ => runFrRun28
  | 29, _ => runFrRun29
  | 30, _ => runFrRun30
  | 31, _ => runFrRun31
  | 32, _ => runFrRun32
  | 33, _ => runFrRun33
  | 34, _ => runFrRun34
  | 35, _ => runFrRun35
  | 36, _ => runFrRun36
  | 37, _ => runFrRun37
  | 38, _ => runFrRun38
  | 39, _ => runFrRun39
  | n + 40, h => absurd h (by omega)
theorem allIn : ∀ n, n < 40 → InRun n
  | 0, _ => runInRun0
  | 1, _ => runInRun1
  | 2, _ => runInRun2
  | 3, _ => runInRun3
  | 4, _ => runInRun4
  | 5, _ => runInRun5
  | 6, _ => runInRun6
  | 7, _ => runInRun7
  | 8, _ => runInRun8
  | 9, _ => runInRun9
  | 10, _ => runInRun10
  | 11, _ => runInRun11
  | 12, _ => runInRun12
  | 13, _ => runInRun13
  | 14, _ => runInRun14
  | 15, _ => runInRun15
  | 16, _ => runInRun16
  | 17, _ => runInRun17
  | 18, _ => runInRun18
  | 19, _ => runInRun19
  | 20, _ => runInRun20
  | 21, _ => runInRun21
  | 22, _ => runInRun22
  | 23, _ => runInRun23
  | 24, _ => runInRun24
  | 25, _ => runInRun25
  | 26, _ => runInRun26
  | 27, _ => runInRun27
  | 28, _ => runInRun28
  | 29, _ => runInRun29
  | 30, _ => runInRun30
  | 31, _ => runInRun31
  | 32, _ => runInRun32
  | 33, _ => runInRun33
  | 34, _ => runInRun34
  | 35, _ => runInRun35
  | 36, _ => runInRun36
  | 37, _ => runInRun37
  | 38, _ => runInRun38
  | 39, _ => runInRun39
  | n + 40, h => absurd h (by omega)
theorem allOut : ∀ n, n < 40 → OutRun n
  | 0, _ => runOutRun0
  | 1, _ => runOutRun1
  | 2, _ => runOutRun2
  | 3, _ => runOutRun3
  | 4, _ => runOutRun4
  | 5, _ => runOutRun5
  | 6, _ => runOutRun6
  | 7, _ => runOutRun7
  | 8, _ => runOutRun8
  | 9, _ => runOutRun9
  | 10, _ => runOutRun10
  | 11, _ => runOutRun11
  | 12, _ => runOutRun12
  | 13, _ => runOutRun13
  | 14, _ => runOutRun14
  | 15, _ => runOutRun15
  | 16, _ => runOutRun16
  | 17, _ => runOutRun17
  | 18, _ => runOutRun18
  | 19, _ => runOutRun19
  | 20, _ => runOutRun20
  | 21, _ => runOutRun21
  | 22, _ => runOutRun22
  | 23, _ => runOutRun23
  | 24, _ => runOutRun24
  | 25, _ => runOutRun25
  | 26, _ => runOutRun26
  | 27, _ => runOutRun27
  | 28, _ => runOutRun28
  | 29, _ => runOutRun29
  | 30, _ => runOutRun30
  | 31, _ => runOutRun31
  | 32, _ => runOutRun32
  | 33, _ => runOutRun33
  | 34, _ => runOutRun34
  | 35, _ => runOutRun35
  | 36, _ => runOutRun36
  | 37, _ => runOutRun37
  | 38, _ => runOutRun38
  | 39, _ => runOutRun39
  | n + 40, h => absurd h (by omega)
theorem allAll : ∀ n, n < 40 → AllRun n
  | 0, _ => runAllRun0
  | 1, _ => runAllRun1
  | 2, _ => runAllRun2
  | 3, _ => runAllRun3
  | 4, _ => runAllRun4
  | 5, _ => runAllRun5
  | 6, _ => runAllRun6
  | 7, _ => runAllRun7
  | 8, _ => runAllRun8
  | 9, _ => runAllRun9
  | 10, _ => runAllRun10
  | 11, _ => runAllRun11
  | 12, _ => runAllRun12
  | 13, _ => runAllRun13
  | 14, _ => runAllRun14
  | 15, _ => runAllRun15
  | 16, _ => runAllRun16
  | 17, _ => runAllRun17
  | 18, _ => runAllRun18
  | 19, _ => runAllRun19
  | 20, _ => runAllRun20
  | 21, _ => runAllRun21
  | 22, _ => runAllRun22
  | 23, _ => runAllRun23
  | 24, _ => runAllRun24
  | 25, _ => runAllRun25
  | 26, _ => runAllRun26
  | 27, _ => runAllRun27
  | 28, _ => runAllRun28
  | 29, _ => runAllRun29
  | 30, _ => runAllRun30
  | 31, _ => runAllRun31
  | 32, _ => runAllRun32
  | 33, _ => runAllRun33
  | 34, _ => runAllRun34
  | 35, _ => runAllRun35
  | 36, _ => runAllRun36
  | 37, _ => runAllRun37
  | 38, _ => runAllRun38
  | 39, _ => runAllRun39
  | n + 40, h => absurd h (by omega)

theorem pong_len : ∀ n, n < 40 → (pongB n).length = 10 := by decide
theorem keep_len {S : Sta} {k : Nat} {o : AObj} {olds : List Nat} (h : olds.length = S.length + 1) : olds.length = (S ++ [(k, o)]).length := by simp [h]

theorem frI (n : Nat) (hn : n < 40) (idle clock heard : Int) {w0 w : World} {b : Nat} (h : AtP (stS idle clock heard) w0 w b) : Calls Tryz.prog 13 #[msgC 7 0 0 n] w fun e w' => ∃ g ext, e = .returned (.slice (some ⟨g, 0, none⟩) 10 (10 + ext)) ∧ AtQ (stF n idle clock heard) 49 w0 w' b g ext := by
  refine (h.call0 (allFr n hn idle clock heard) (by kernel_rfl) rfl rfl rfl noOb).mono ?_
  rintro e w' ⟨R', v', rfl, ⟨l, g1, rfl⟩, g3, u, g4⟩
  obtain ⟨g, ext, u', k1, k2⟩ := loose_loc (g3.sat.obj 49 (.loose _ _) trivial rfl)
  have k1' : R' 34 = some ⟨g, 0, ext, u'⟩ := k1
  simp only at g1
  rw [k1'] at g1
  cases g1
  exact ⟨g, ext, rfl, _, u, u', g3, g4, k1'⟩
theorem inI (n : Nat) (hn : n < 40) (idle clock heard : Int) {w0 w : World} {b g ext : Nat} (h : AtQ (stF n idle clock heard) 49 w0 w b g ext) : Calls Tryz.prog 10 #[.pointer (some ⟨b, 0, none⟩), .int .i64 1, .slice (some ⟨g, 0, none⟩) 10 (10 + ext)] w fun e w' => e = .returned (.tuple #[.int .i64 10, .int .i64 0]) ∧ AtP (stU (pongB n) idle clock) w0 w' b := by
  obtain ⟨R, u, u', hS, hb, hg⟩ := h
  refine (SatC.step mixed extX_ok (idleO_ok _) hS (allIn n hn idle clock heard) (by kernel_rfl) rfl (avs := [.pointer (some ⟨b, 0, none⟩), .int .i64 1, .slice (some ⟨g, 0, none⟩) 10 (10 + ext)]) ⟨_, _, ⟨_, hb, rfl⟩, ⟨_, _, rfl, ⟨_, _, ⟨_, hg, rfl⟩, rfl, rfl⟩, rfl⟩, rfl⟩ noOb).mono ?_
  rintro e w' ⟨R', v', rfl, g1, g2, g3, g4⟩
  rw [VR.flat rfl] at g1
  rw [g1]
  exact ⟨rfl, _, u, g3, g2 _ _ hb⟩
theorem outI (n : Nat) (hn : n < 40) (idle clock : Int) {w0 w : World} {b : Nat} (h : AtP (stU (pongB n) idle clock) w0 w b) : Calls Tryz.prog 11 #[.pointer (some ⟨b, 0, none⟩), .int .i64 1, .int .i64 1000] w fun e w' => ∃ g ext, e = .returned (.tuple #[.slice (some ⟨g, 0, none⟩) 10 (10 + ext), .bool true]) ∧ AtQ (stV n idle clock) 49 w0 w' b g ext := by
  refine (h.call (allOut n hn idle clock) (by kernel_rfl) rfl rfl rfl noOb).mono ?_
  rintro e w' ⟨R', v', rfl, g1, g2, g3, u, g4⟩
  obtain ⟨a', ⟨l', ⟨y, ys, ⟨l, q1, rfl⟩, ⟨y2, ys2, q3, q4, rfl⟩, rfl⟩, rfl⟩, rfl⟩ := g1
  simp only [VRs] at q4
  subst q4
  have q3 : y2 = .bool true := q3
  subst q3
  obtain ⟨g, ext, u', k1, k2⟩ := loose_loc (g3.sat.obj 49 (.loose _ _) trivial rfl)
  have k1' : R' 4 = some ⟨g, 0, ext, u'⟩ := k1
  simp only at q1
  rw [k1'] at q1
  cases q1
  exact ⟨g, ext, rfl, _, u, u', g3, g4, k1'⟩
/-- What All's list holds. -/
def AllAt (w : World) (g : Nat) (cs : List Value) : Prop := ∀ (j : Nat) (x : Value), cs[j]? = some x → flat x = true → w.cell? ⟨g, j, none⟩ = some x
theorem allI (n : Nat) (hn : n < 40) (idle clock : Int) {w0 w : World} {b g ext : Nat} (h : AtQ (stV n idle clock) 49 w0 w b g ext) : Calls Tryz.prog 15 #[.slice (some ⟨g, 0, none⟩) 10 (10 + ext)] w fun e w' => ∃ g2 c, e = .returned (.tuple #[.slice (some ⟨g2, 0, none⟩) 1 c, .int .i64 40, .int .i64 0]) ∧ AtP (stS idle clock clock) w0 w' b ∧ AllAt w' g2 (msgCells 8 0 0 n) := by
  obtain ⟨R, u, u', hS, hb, hg⟩ := h
  refine (SatC.step mixed extX_ok (idleO_ok _) hS (allAll n hn idle clock) (by kernel_rfl) rfl (avs := [.slice (some ⟨g, 0, none⟩) 10 (10 + ext)]) ⟨_, _, ⟨_, hg, rfl⟩, rfl, rfl⟩ noOb).mono ?_
  rintro e w' ⟨R', v', rfl, g1, g2, g3, g4⟩
  obtain ⟨a', ⟨l', ⟨y, ys, ⟨l, q1, rfl⟩, ⟨y2, ys2, q3, ⟨y3, ys3, q5, q6, rfl⟩, rfl⟩, rfl⟩, rfl⟩, rfl⟩ := g1
  simp only [VRs] at q6
  subst q6
  have q3 : y2 = .int .i64 40 := q3
  subst q3
  have q5 : y3 = .int .i64 0 := q5
  subst q5
  obtain ⟨gg, ext2, u2, k1, k2⟩ := loose_loc (g3.sat.obj 49 (.loose _ _) trivial rfl)
  have k1' : R' 24 = some ⟨gg, 0, ext2, u2⟩ := k1
  simp only at q1
  rw [k1'] at q1
  cases q1
  obtain ⟨p1, p2⟩ := g3.part (S' := stS idle clock clock) (bs := [1, 3, 5, 7, 9, 11, 13, 15, 17, 19, 21, 23, 25, 27, 29, 31, 33, 35, 37, 39, 41, 43, 45, 47]) (z := 100) (by kernel_rfl) (by kernel_rfl) rfl
  exact ⟨gg, 1 + ext2, rfl, ⟨_, u, p1, g2 _ _ hb⟩, k2⟩

-- a connection that is shut
theorem inT (idle clock heard since : Int) (v : Value) (hv : v.oneCell' = true) {w0 w : World} {b : Nat} (h : AtP (stT idle clock heard since) w0 w b) : Calls Tryz.prog 10 #[.pointer (some ⟨b, 0, none⟩), .int .i64 1, v] w fun e w' => e = .returned (.tuple #[.int .i64 0, .int .i64 200]) ∧ AtP (stT idle clock heard since) w0 w' b := by
  obtain ⟨R, u, hS, hb⟩ := h
  obtain ⟨p1, p2⟩ := hS.part (S' := stT idle clock heard since) (bs := [1, 3, 5, 7, 9, 11, 13, 15, 17, 19, 21, 23, 25, 27, 29, 31, 33, 35, 37, 39, 41, 43, 45]) (z := 100) (by kernel_rfl) (by kernel_rfl) rfl
  have hS2 := p1.value (i := 47) rfl rfl p2 ⟨0, 0, 0, v⟩
  have hb2 : (Ren.upd (fun i => R (((stT idle clock heard since).keep [1, 3, 5, 7, 9, 11, 13, 15, 17, 19, 21, 23, 25, 27, 29, 31, 33, 35, 37, 39, 41, 43, 45]).σ 100 i)) 47 ⟨0, 0, 0, v⟩) 1 = some ⟨b, 0, 0, u⟩ := (Ren.upd_ne _ _ (by decide)).trans hb
  refine (SatC.step mixed extX_ok (idleO_ok _) hS2 (in_runT idle clock heard since) (by kernel_rfl) rfl (avs := [.pointer (some ⟨b, 0, none⟩), .int .i64 1, v]) ⟨_, _, ⟨_, hb2, rfl⟩, ⟨_, _, rfl, ⟨_, _, ⟨_, Ren.upd_same _ _ _, rfl, hv⟩, rfl, rfl⟩, rfl⟩, rfl⟩ noOb).mono ?_
  rintro e w' ⟨R', v', rfl, g1, g2, g3, g4⟩
  rw [VR.flat rfl] at g1
  rw [g1]
  exact ⟨rfl, _, u, g3, g2 _ _ hb2⟩
/-- The bytes that wait there. -/
def AtB (w0 w : World) (g ext : Nat) : Prop := ∃ R u, SatC Tryz.prog ⟨w0, w0.heap.size⟩ R stB.tree w ∧ R 1 = some ⟨g, 0, ext, u⟩
theorem outT (idle clock heard since : Int) {w0 w : World} {b : Nat} (h : AtP (stT idle clock heard since) w0 w b) : Calls Tryz.prog 11 #[.pointer (some ⟨b, 0, none⟩), .int .i64 1, .int .i64 1000] w fun e w' => ∃ g ext, e = .returned (.tuple #[.slice (some ⟨g, 0, none⟩) 11 (11 + ext), .bool true]) ∧ AtB w0 w' g ext := by
  obtain ⟨R, u, hS, hb⟩ := h
  refine (SatC.step mixed extX_ok (idleO_ok _) hS (out_runT idle clock heard since) (by kernel_rfl) rfl (avs := [.pointer (some ⟨b, 0, none⟩), .int .i64 1, .int .i64 1000]) ⟨_, _, ⟨_, hb, rfl⟩, ⟨_, _, rfl, ⟨_, _, rfl, rfl, rfl⟩, rfl⟩, rfl⟩ noOb).mono ?_
  rintro e w' ⟨R', v', rfl, g1, g2, g3, g4⟩
  obtain ⟨a', ⟨l', ⟨y, ys, ⟨l, q1, rfl⟩, ⟨y2, ys2, q3, q4, rfl⟩, rfl⟩, rfl⟩, rfl⟩ := g1
  simp only [VRs] at q4
  subst q4
  have q3 : y2 = .bool true := q3
  subst q3
  obtain ⟨g, ext, u', k1, k2⟩ := loose_loc (g3.sat.obj 1 (.loose _ _) trivial rfl)
  have k1' : R' 4 = some ⟨g, 0, ext, u'⟩ := k1
  simp only at q1
  rw [k1'] at q1
  cases q1
  exact ⟨g, ext, rfl, _, u', g3, k1'⟩
theorem allT {w0 w : World} {g ext : Nat} (h : AtB w0 w g ext) : Calls Tryz.prog 15 #[.slice (some ⟨g, 0, none⟩) 11 (11 + ext)] w fun e w' => ∃ g2 c, e = .returned (.tuple #[.slice (some ⟨g2, 0, none⟩) 1 c, .int .i64 40, .int .i64 0]) ∧ Below w0.heap.size w0 w' ∧ AllAt w' g2 (msgCells 6 0 190 0) := by
  obtain ⟨R, u, hS, hg⟩ := h
  refine (SatC.step mixed extX_ok (idleO_ok _) hS all_runT (by kernel_rfl) rfl (avs := [.slice (some ⟨g, 0, none⟩) 11 (11 + ext)]) ⟨_, _, ⟨_, hg, rfl⟩, rfl, rfl⟩ noOb).mono ?_
  rintro e w' ⟨R', v', rfl, g1, g2, g3, g4⟩
  obtain ⟨a', ⟨l', ⟨y, ys, ⟨l, q1, rfl⟩, ⟨y2, ys2, q3, ⟨y3, ys3, q5, q6, rfl⟩, rfl⟩, rfl⟩, rfl⟩, rfl⟩ := g1
  simp only [VRs] at q6
  subst q6
  have q3 : y2 = .int .i64 40 := q3
  subst q3
  have q5 : y3 = .int .i64 0 := q5
  subst q5
  obtain ⟨gg, ext2, u2, k1, k2⟩ := loose_loc (g3.sat.obj 1 (.loose _ _) trivial rfl)
  have k1' : R' 28 = some ⟨gg, 0, ext2, u2⟩ := k1
  simp only at q1
  rw [k1'] at q1
  cases q1
  exact ⟨gg, 1 + ext2, rfl, g3.sat.bas, k2⟩
theorem allFrc : ∀ n, n < 40 → FrcRun n
  | 0, _ => runFrc0
  | 1, _ => runFrc1
  | 2, _ => runFrc2
  | 3, _ => runFrc3
  | 4, _ => runFrc4
  | 5, _ => runFrc5
  | 6, _ => runFrc6
  | 7, _ => runFrc7
  | 8, _ => runFrc8
  | 9, _ => runFrc9
  | 10, _ => runFrc10
  | 11, _ => runFrc11
  | 12, _ => runFrc12
  | 13, _ => runFrc13
  | 14, _ => runFrc14
  | 15, _ => runFrc15
  | 16, _ => runFrc16
  | 17, _ => runFrc17
  | 18, _ => runFrc18
  | 19, _ => runFrc19
  | 20, _ => runFrc20
  | 21, _ => runFrc21
  | 22, _ => runFrc22
  | 23, _ => runFrc23
  | 24, _ => runFrc24
  | 25, _ => runFrc25
  | 26, _ => runFrc26
  | 27, _ => runFrc27
  | 28, _ => runFrc28
  | 29, _ => runFrc29
  | 30, _ => runFrc30
  | 31, _ => runFrc31
  | 32, _ => runFrc32
  | 33, _ => runFrc33
  | 34, _ => runFrc34
  | 35, _ => runFrc35
  | 36, _ => runFrc36
  | 37, _ => runFrc37
  | 38, _ => runFrc38
  | 39, _ => runFrc39
  | n + 40, h => absurd h (by omega)

theorem frcI (n : Nat) (hn : n < 40) (w : World) : Calls Tryz.prog 13 #[msgC 7 0 0 n] w fun e w' => ∃ g o c, e = .returned (.slice (some ⟨g, o, none⟩) 10 c) ∧ Kp (fun _ => False) w w' := by
  refine (SatC.step mixed extX_ok (idleO_ok _) (S := sta0) (SatC.start (R := fun _ => none) (fun _ _ h => by cases h) w) (allFrc n hn) (by kernel_rfl) rfl ((VRs.flat rfl).2 rfl) noOb).mono ?_
  rintro e w' ⟨R', v', rfl, ⟨l, g1, rfl⟩, g2, g3, g4⟩
  exact ⟨_, _, _, rfl, Kp.of_below _ g3.sat.bas⟩
theorem set_calls_idle (idle : Int) (w : World) : Calls Tryz.prog 7 #[.slice none 0 0, .int .i64 4, .int .u32 idle, .int .u32 1000] w fun e w' => e = .returned (.agg #[.slice none 0 0, .int .i64 4, .int .u32 3, .int .u32 idle, .int .u32 1000, .int .u32 20]) ∧ Kp (fun _ => False) w w' := by
  refine (ev_closed mixed extX_ok (v := .agg #[.slice none 0 0, .int .i64 4, .int .u32 3, .int .u32 idle, .int .u32 1000, .int .u32 20]) (lf := 100) (d := 50) (by kernel_rfl) rfl rfl w).mono ?_
  rintro e w' ⟨rfl, h⟩
  exact ⟨rfl, Kp.of_below _ h⟩
end Go.Proofs.YtigdbooadelciaaGreat

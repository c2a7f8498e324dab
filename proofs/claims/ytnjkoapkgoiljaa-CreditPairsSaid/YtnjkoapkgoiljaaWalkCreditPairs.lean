/- CreditPairs: of two windows the other one's limit is never above the first one's; at last it is the same: the walk. -/
import Derived.Test.YtnjkoapkgoiljaaWalkCreditFrees
import Derived.Test.YtnjkoapkgoiljaaApd
import Derived.Deep.DeepCutAuto
import Derived.Deep.CutBlock
namespace Go.Proofs.Ytnjkoapkgoiljaa
open Go.RowKit

/-- A slice of numbers of kind u32 that came in. -/
def NumsIn (w : World) (k : IntKind) (m : Int) (A : Option Addr) (len : Nat) : Prop :=
  len ≤ maxLen ∧ ∀ i, i < len → ∃ b off n, A = some ⟨b, off, none⟩ ∧ w.cell? ⟨b, off + i, none⟩ = some (.int k n) ∧ 0 ≤ n ∧ n < m

theorem u8bc {n : Int} (h : (Lit.int .u8 n).wf = true) : 0 ≤ n ∧ n < 256 := by
  have := bounds_u8 h
  omega

theorem NumsIn.of_u32 {w : World} {v : Value} (h : Came Try.prog w 23 v) : ∃ A len cap, v = .slice A len cap ∧ NumsIn w .u32 4294967296 A len := by
  obtain ⟨A, len, cap, rfl, h1, h2, h3⟩ := Came.row Try.underlying23 (by kernel_rfl : Try.prog.cellsOf 30 = 1) (by decide) h
  refine ⟨A, len, cap, rfl, by omega, fun i hi => ?_⟩
  obtain ⟨b, off, es, rfl, hl, he, hc⟩ := h3 i hi
  obtain ⟨n, rfl, hw⟩ := CameC.int Try.underlying30 hc
  exact ⟨b, off, n, rfl, by simpa using he 0 (by decide), u32bc hw⟩

theorem NumsIn.of_u8 {w : World} {v : Value} (h : Came Try.prog w 42 v) : ∃ A len cap, v = .slice A len cap ∧ NumsIn w .u8 256 A len := by
  obtain ⟨A, len, cap, rfl, h1, h2, h3⟩ := Came.row Try.underlying42 (by kernel_rfl : Try.prog.cellsOf 5 = 1) (by decide) h
  refine ⟨A, len, cap, rfl, by omega, fun i hi => ?_⟩
  obtain ⟨b, off, es, rfl, hl, he, hc⟩ := h3 i hi
  obtain ⟨n, rfl, hw⟩ := CameC.int Try.underlying5 hc
  exact ⟨b, off, n, rfl, by simpa using he 0 (by decide), u8bc hw⟩

theorem NumsIn.below {w w' : World} {k : IntKind} {m : Int} {A : Option Addr} {len : Nat} (h : NumsIn w k m A len) (hb : Below w.heap.size w w') : NumsIn w' k m A len :=
  ⟨h.1, fun i hi => by
    obtain ⟨b, off, n, e, hc, h0⟩ := h.2 i hi
    exact ⟨b, off, n, e, (hb.cell (World.block_lt_of_cell? w _ hc)).trans hc, h0⟩⟩

/-- The limits that were told, each no greater than the first window's. -/
def LimsAt (w : World) (base : Nat) (v : Value) (n : Nat) (l : Int) : Prop :=
  ∃ xs : List Int, xs.length = n ∧ w.ownsRow base 30 1 v n (xs.map fun x => Value.int .u32 x) ∧ ∀ x ∈ xs, 0 ≤ x ∧ x ≤ l

/-- The loop's relation. -/
def CpRel (w : World) (len bA bB B : Nat) (s : Int) (lims i : Value) (wr : World) : Prop :=
  ∃ (k : Nat) (la lb : Int), i = .int .i64 k ∧ k ≤ len ∧ k ≤ 100 ∧ 1 ≤ lb ∧ lb ≤ la ∧ la ≤ 1073741824 ∧ LimsAt wr B lims (k + 1) la ∧ WinAt wr bA s la ∧ WinAt wr bB s lb ∧ B ≤ wr.heap.size ∧ Below w.heap.size w wr

theorem infoU32 : (Try.prog.info? 30).map (fun i => (i.zero, i.size, i.bytes)) = some (some (.int .u32 0), 1, 4) := by kernel_rfl

set_option maxRecDepth 100000 in
set_option maxHeartbeats 2000000 in
theorem creditPairs_walk (v0 v1 v2 : Value) (w : World) (h0 : Came Try.prog w 3 v0) (h1 : Came Try.prog w 23 v1) (h2 : Came Try.prog w 42 v2) :
    Calls Try.prog 6 #[v0, v1, v2] w fun e w' => e = .returned (.bool true) ∧ Below w.heap.size w w' := by
  obtain ⟨size, rfl, _⟩ := Came.int Try.underlying3 h0
  obtain ⟨A, len, cap, rfl, hA⟩ := NumsIn.of_u32 h1
  obtain ⟨T, len2, cap2, rfl, hT⟩ := NumsIn.of_u8 h2
  have hm : len ≤ 9223372036854775807 := by have := hA.1; unfold maxLen at this; omega
  have hm2 : len2 ≤ 9223372036854775807 := by have := hT.1; unfold maxLen at this; omega
  clear h0 h1 h2
  go_enter Try.func6, Try.ntmps6
  go_wp2_with fail
  refine (win_alive _).mono ?_
  rintro e w1 ⟨rfl, k1⟩
  go_wp2_with fail
  refine (win_new size _).mono ?_
  rintro e w2 ⟨rfl, hWA, k2⟩
  go_wp2_with fail
  refine (win_new size _).mono ?_
  rintro e w3 ⟨rfl, hWB, k3⟩
  have hc := clip_bd size
  have g3 := hWA.lt
  have hWA := hWA.kp k3 id
  go_wp2_with fail
  refine (win_limit _ _ _ _ hWA).mono ?_
  rintro e w4 ⟨rfl, rfl⟩
  have kk := ((k1.trans (k2.trans k3)).alloc (.cells #[.int .u32 (Clip size)] 30)).below
  have g1 := k1.size
  have g2 := k2.size
  have g4 := hWB.lt
  have hne : w1.heap.size ≠ w2.heap.size := Nat.ne_of_lt g3
  clear k1 k2 k3
  generalize w1.heap.size = bA at *
  generalize w2.heap.size = bB at *
  generalize Clip size = s at *
  go_wp2_with fail
  have hlim0 : LimsAt (w3.alloc (.cells #[.int .u32 s] 30)) w3.heap.size (.slice (some ⟨w3.heap.size, 0, none⟩) 1 1) 1 s :=
    ⟨[s], rfl, World.ownsRow_lit w3 #[.int .u32 s] 1 (Nat.le_refl _) (by decide) rfl, by simp; omega⟩
  have hWA0 := Blk.alloc hWA (.cells #[.int .u32 s] 30)
  have hWB0 := Blk.alloc hWB (.cells #[.int .u32 s] 30)
  have hB : w3.heap.size ≤ (w3.alloc (.cells #[.int .u32 s] 30)).heap.size := by simp
  have hB0 : w.heap.size ≤ w3.heap.size := by omega
  have gA : bA < w3.heap.size := by omega
  clear hWA hWB
  generalize w3.heap.size = B at *
  go_loopw [9, 10] (fun v i wr => CpRel w len bA bB B s v i wr) (fun _ i _ => (100 - intOf i).toNat)
  case atStart => exact ⟨0, s, s, rfl, by omega, by omega, by omega, by omega, by omega, hlim0, hWA0, hWB0, hB, kk⟩
  case round =>
    clear hWA0 hWB0 hlim0 hB kk
    obtain ⟨k, la, lb, rfl, hk1, hk2, hb1, hba, ha, hlims, hWa, hWb, hBw, hbw⟩ := hrel
    by_cases hlt : k < len ∧ k < 100
    · obtain ⟨hl1, hl2⟩ := hlt
      obtain ⟨b, off, n, rfl, hcn, hn0, hn1⟩ := (hA.below hbw).2 k hl1
      have hmod : 0 ≤ n % 1000 ∧ n % 1000 < 1000 := by omega
      go_wp2_with fail
      refine (win_had _ _ _ _ _ hWa (by omega) (by omega) hmod.1 (by omega)).mono ?_
      have hla : 1 ≤ Mx la (HadTo s (n % 1000)) ∧ Mx la (HadTo s (n % 1000)) ≤ 1073741824 := mx_bd ⟨by omega, ha⟩ (hadTo_bd hc.1 hc.2 hmod.1)
      have hla2 : la ≤ Mx la (HadTo s (n % 1000)) := by unfold Mx; split <;> omega
      generalize Mx la (HadTo s (n % 1000)) = la2 at *
      generalize decide (la < HadTo s (n % 1000)) = rr
      rintro e w4 ⟨rfl, hWa4, k4⟩
      have hb4 := k4.below_of hbw (by omega) (by rintro i rfl; omega)
      have hWb4 := hWb.kp k4 (fun h => hne h.symm)
      obtain ⟨xs, hxl, hown, hxs⟩ := hlims
      have hlb := own_base' hown
      have hown4 := own_kp hown k4 (by intro g hg; have := (own_base' hown g hg).1; omega)
      have hs4 := k4.size
      clear hbw hWa hWb k4 hown hcn
      go_wp2_with fail
      refine (win_limit _ _ _ _ hWa4).mono ?_
      rintro e w5 ⟨rfl, rfl⟩
      have ho1 : ∀ u ∈ (#[Value.int .u32 la2] : Array Value).toList, u.oneCell' = true := by simp [Value.oneCell']
      go_wp2_with (at_builtin; refine wp_append1 (W := w4) B rfl (.tmp 37) (.tmp 40) 23 30 (.int .u32 0) 1 4 rfl Try.underlying23 infoU32 rfl (by decide) _ (k + 1) _ #[.int .u32 la2] rfl rfl rfl ho1 hown4 (by omega) (by omega) (by omega) ?_)
      intro v1 w6 hown6 hg6 hat6
      have hk6 : Kp (fun g => B ≤ g) w4 w6 := Kp.of_grown hg6 (fun k h => (hlb k h).1)
      have hWa6 := hWa4.kp hk6 (by show ¬ B ≤ bA; omega)
      have hWb6 := hWb4.kp hk6 (by show ¬ B ≤ bB; omega)
      have hb6 := hk6.below_of hb4 (by omega) (by intro i hi; omega)
      have hs6 := hk6.size
      have hxs6 : ∀ x ∈ xs ++ [la2], 0 ≤ x ∧ x ≤ la2 := by
        intro x hx
        rcases List.mem_append.1 hx with hx | hx
        · have := hxs x hx; omega
        · simp at hx; omega
      have hlen6 : (xs ++ [la2]).length = k + 1 + 1 := by simp [hxl]
      have hown6 : w6.ownsRow B 30 1 v1 (k + 1 + 1) ((xs ++ [la2]).map fun x => Value.int .u32 x) := by simpa using hown6
      generalize xs ++ [la2] = ys at *
      obtain ⟨g, cp, rfl, hgB, hgl⟩ := hown6.form (by omega)
      have hlim6 : LimsAt w6 B (.slice (some ⟨g, 0, none⟩) (k + 1 + 1) cp) (k + 1 + 1) la2 := ⟨ys, hlen6, hown6, hxs6⟩
      clear hg6 hat6 hlb hk6 hb4 hWa4 hWb4 hown4 ho1 hxs hxl
      by_cases ht : k < len2
      · obtain ⟨b2, off2, t, rfl, hct, ht0, ht1⟩ := (hT.below hb6).2 k ht
        have hj : 0 ≤ t % ((k : Int) + 1 + 1) ∧ t % ((k : Int) + 1 + 1) < (k : Int) + 1 + 1 := ⟨Int.emod_nonneg _ (by omega), Int.emod_lt_of_pos _ (by omega)⟩
        have hjn : (t % ((k : Int) + 1 + 1)).toNat < ys.length := by omega
        have hcell : w6.cell? ⟨g, (t % ((k : Int) + 1 + 1)).toNat, none⟩ = some (.int .u32 (ys[(t % ((k : Int) + 1 + 1)).toNat]'hjn)) := by
          rw [hown6.cellAt _ (by omega)]
          simp [hjn]
        have hy := hxs6 _ (List.getElem_mem hjn)
        generalize ys[(t % ((k : Int) + 1 + 1)).toNat]'hjn = y at *
        go_wp2_with fail
        refine (win_raise _ _ _ _ _ hWb6 (by omega) (by omega)).mono ?_
        have hly : 1 ≤ Mx lb (Cap30 y) ∧ Mx lb (Cap30 y) ≤ la2 := by unfold Mx Cap30; split <;> split <;> omega
        generalize Mx lb (Cap30 y) = lb2 at *
        generalize decide (lb < Cap30 y) = rr2
        rintro e w7 ⟨rfl, hWb7, k7⟩
        have hWa7 := hWa6.kp k7 hne
        have hlim7 : LimsAt w7 B (.slice (some ⟨g, 0, none⟩) (k + 1 + 1) cp) (k + 1 + 1) la2 := by
          obtain ⟨zs, h1, h2, h3⟩ := hlim6
          exact ⟨zs, h1, own_kp h2 k7 (by intro i hi; have := (own_base' h2 i hi).1; omega), h3⟩
        have hb7 := k7.below_of hb6 (by omega) (by rintro i rfl; omega)
        have hs7 := k7.size
        clear hct hcell hlim6
        go_wp2_with fail
        refine (win_limit _ _ _ _ hWb7).mono ?_
        rintro e w8 ⟨rfl, rfl⟩
        go_wp2_with fail
        refine (win_limit _ _ _ _ hWa7).mono ?_
        rintro e w8 ⟨rfl, rfl⟩
        have hle : ¬ la2 < lb2 := by omega
        go_wp2_with fail
        go_roundw
        case rel => exact ⟨k + 1, la2, lb2, by go_num, by omega, by omega, by omega, by omega, by omega, hlim7, hWa7, hWb7, by omega, hb7⟩
        case measure => simp [intOf]; omega
      · have ht' : decide (k < len2) = false := by simpa using ht
        clear ht
        go_wp2_with fail
        refine (win_limit _ _ _ _ hWb6).mono ?_
        rintro e w7 ⟨rfl, rfl⟩
        go_wp2_with fail
        refine (win_limit _ _ _ _ hWa6).mono ?_
        rintro e w7 ⟨rfl, rfl⟩
        have hle : ¬ la2 < lb := by omega
        go_wp2_with fail
        go_roundw
        case rel => exact ⟨k + 1, la2, lb, by go_num, by omega, by omega, by omega, by omega, by omega, hlim6, hWa6, hWb6, by omega, hb6⟩
        case measure => simp [intOf]; omega
    · have hcase : (decide (k < len) = false) ∨ ((decide (k < len) = true) ∧ ¬ (k : Int) < 100) := by
        by_cases h : k < len
        · exact .inr ⟨by simpa using h, by omega⟩
        · exact .inl (by simpa using h)
      clear hlt
      have hr : Hid (Mx lb (Cap30 la) = la) := by unfold Hid Mx Cap30; split <;> split <;> omega
      rcases hcase with hl | ⟨hl, hl2⟩
      all_goals
        go_wp2_with fail
        refine (win_limit _ _ _ _ hWa).mono ?_
        rintro e w5 ⟨rfl, rfl⟩
        go_wp2_with fail
        refine (win_raise _ _ _ _ _ hWb (by omega) (by omega)).mono ?_
        rw [hr.out]
        generalize decide (lb < Cap30 la) = rr
        rintro e w5 ⟨rfl, hWb5, k5⟩
        have hWa5 := hWa.kp k5 hne
        have hb5 := k5.below_of hbw (by omega) (by rintro i rfl; omega)
        go_wp2_with fail
        refine (win_limit _ _ _ _ hWb5).mono ?_
        rintro e w6 ⟨rfl, rfl⟩
        go_wp2_with fail
        refine (win_limit _ _ _ _ hWa5).mono ?_
        rintro e w6 ⟨rfl, rfl⟩
        have hll : (la == la) = true := by simp
        have hv : Hid ((if (1 : Int) = 0 ∨ la < 1 then (0 : Int) else la - 1 + 1) = la) := by unfold Hid; rw [if_neg (by omega)]; omega
        go_wp2_with fail
        refine (win_free_v _ _ _ _ _ _ hWb5 (by omega) (by omega) (by omega) hv.out).mono ?_
        rintro e w6 ⟨rfl, rfl⟩
        go_wp2_with fail
        refine (win_limit _ _ _ _ hWb5).mono ?_
        rintro e w6 ⟨rfl, rfl⟩
        go_wp2_with fail
        go_ret
        exact ⟨rfl, hb5⟩
end Go.Proofs.Ytnjkoapkgoiljaa

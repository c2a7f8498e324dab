/- slices.Sort of at most 12 numbers of the kind u64; slices.Sorted(maps.Keys(m)). (Printed by gen_sorted2.py, a program of this session's own.) -/
import Derived.Test.YtgaaonbjfhklbaaSrt1
import Derived.Test.YtgaaonbjfhklbaaShelf
import Derived.BigRegion
namespace Go.Proofs.Ytgaaonbjfhklbaa
set_option linter.unusedVariables false
set_option linter.unusedSimpArgs false
open Go.RowKit

theorem less_num (x y : Int) (w : World) : Calls Try.prog 81 #[.int .u64 x, .int .u64 y] w fun e w' => e = .returned (.bool (decide (x < y))) ∧ w' = w := by
  have hnan : ∀ x w, Calls Try.prog 92 #[.int .u64 x] w fun e w' => e = .returned (.bool false) ∧ w' = w := by
    intro x w
    have e0 : (x != x) = false := by simp
    go_enter Try.func92, Try.ntmps92
    go_wp2_with fail
    go_ret
    exact ⟨rfl, rfl⟩
  have hn := Lib.hid hnan
  clear hnan
  go_enter Try.func81, Try.ntmps81
  go_wp2_with fail
  refine (hn.out _ _).mono ?_
  rintro e w1 ⟨rfl, rfl⟩
  go_wp2_with fail
  go_ret
  exact ⟨rfl, rfl⟩

def gN (l : List Int) (i : Nat) : Int := l.getD i 0
theorem gN_set {l : List Int} {i j : Nat} {v : Int} (hi : i < l.length) : gN (l.set i v) j = if j = i then v else gN l j := by
  unfold gN
  by_cases h : j = i
  · subst h; simp [List.getD, hi]
  · simp [List.getD, List.getElem?_set, h, Ne.symm h]
theorem gN_get {l : List Int} {i : Nat} (hi : i < l.length) : l[i] = gN l i := by simp [gN, List.getD, hi]

/-- Of the first i + 1 all but place j are in order with what is ahead of them. -/
def InsI (l : List Int) (i j : Nat) : Prop := ∀ p q, p < q → q ≤ i → q ≠ j → gN l p ≤ gN l q
def SrtI (l : List Int) (i : Nat) : Prop := ∀ p q, p < q → q < i → gN l p ≤ gN l q

theorem insI_swap {l : List Int} {i j : Nat} (h : InsI l i j) (hj : 0 < j) (hji : j ≤ i) (hi : i < l.length) (hl : gN l j < gN l (j - 1)) : InsI ((l.set j (gN l (j - 1))).set (j - 1) (gN l j)) i (j - 1) := by
  intro p q hpq hqi hne
  have hj1 : j - 1 < (l.set j (gN l (j - 1))).length := by rw [List.length_set]; omega
  have hj2 : j < l.length := by omega
  rw [gN_set hj1, gN_set hj1, gN_set hj2, gN_set hj2, if_neg hne]
  by_cases hq : q = j
  · subst hq
    rw [if_pos rfl]
    by_cases hp : p = q - 1
    · rw [if_pos hp]; omega
    · rw [if_neg hp, if_neg (by omega)]
      exact h p (q - 1) (by omega) (by omega) (by omega)
  · rw [if_neg hq]
    by_cases hp1 : p = j - 1
    · rw [if_pos hp1]
      exact h j q (by omega) hqi hq
    · rw [if_neg hp1]
      by_cases hp2 : p = j
      · rw [if_pos hp2]
        exact h (j - 1) q (by omega) hqi hq
      · rw [if_neg hp2]
        exact h p q hpq hqi hq
theorem insI_end {l : List Int} {i j : Nat} (h : InsI l i j) (hend : j = 0 ∨ gN l (j - 1) ≤ gN l j) : SrtI l (i + 1) := by
  intro p q hpq hqi
  by_cases hq : q = j
  · subst hq
    rcases hend with h0 | h0
    · omega
    · by_cases hp : p = q - 1
      · rw [hp]; exact h0
      · have := h p (q - 1) (by omega) (by omega) (by omega)
        omega
  · exact h p q hpq (by omega) hq
theorem srtI_pair {l : List Int} (h : SrtI l l.length) : l.Pairwise (· ≤ ·) := by
  rw [List.pairwise_iff_getElem]
  intro p q hp hq hpq
  rw [gN_get hp, gN_get hq]
  exact h p q hpq hq

theorem swap_perm {l : List Int} {i j : Nat} (hi : i < l.length) (hj : j < l.length) : ((l.set j (gN l i)).set i (gN l j)).Perm l := by
  rw [← gN_get hi, ← gN_get hj]
  exact List.set_set_perm hj hi

def RowZ (w : World) (base g n cap : Nat) (l : List Int) : Prop := w.ownsRow base 23 1 (.slice (some ⟨g, 0, none⟩) n cap) n (l.map kvK) ∧ l.length = n

theorem RowZ.cell {w : World} {base g n cap : Nat} {l : List Int} (h : RowZ w base g n cap l) {j : Nat} (hj : j < n) : w.cell? ⟨g, j, none⟩ = some (.int .u64 (gN l j)) := by
  rw [h.1.cellAt j (by omega)]
  have : j < l.length := by rw [h.2]; exact hj
  simp [this, kvK, gN, List.getD]
theorem RowZ.drewN {w : World} {base g n cap : Nat} {l : List Int} (h : RowZ w base g n cap l) (k : Nat) : RowZ (w.drewN k) base g n cap l := h
theorem RowZ.set {w : World} {base g n cap : Nat} {l : List Int} (h : RowZ w base g n cap l) {j : Nat} (hj : j < n) (v : Int) : RowZ (w.setCell ⟨g, j, none⟩ (.int .u64 v)) base g n cap (l.set j v) := by
  refine ⟨?_, by simpa using h.2⟩
  have := (h.1.stored j (.int .u64 v)).1
  rw [List.map_set]
  exact this

def OutI (w : World) (base g n cap : Nat) (ss : List Int) (i : Value) (wr : World) : Prop := ∃ (k : Nat) (l : List Int), 1 ≤ k ∧ (k ≤ n ∨ k = 1) ∧ i = .int .i64 k ∧ l.Perm ss ∧ SrtI l k ∧ RowZ wr base g n cap l ∧ Kp (fun i => i = g) w wr
def InI (w : World) (base g n cap k : Nat) (ss : List Int) (j : Value) (wr : World) : Prop := ∃ (i : Nat) (l : List Int), i ≤ k ∧ j = .int .i64 i ∧ l.Perm ss ∧ InsI l k i ∧ RowZ wr base g n cap l ∧ Kp (fun i => i = g) w wr

def SortedPost (w : World) (base g n cap : Nat) (ss : List Int) (e : Ending) (w' : World) : Prop := e = .returned (.tuple #[]) ∧ ∃ l : List Int, l.Perm ss ∧ l.Pairwise (· ≤ ·) ∧ RowZ w' base g n cap l ∧ Kp (fun i => i = g) w w'

set_option maxHeartbeats 2000000 in
theorem ins_sort (base g n cap : Nat) (ss : List Int) (w : World) (h : RowZ w base g n cap ss) (hn : n ≤ 1000000) :
    Calls Try.prog 75 #[.slice (some ⟨g, 0, none⟩) n cap, .int .i64 0, .int .i64 n] w (SortedPost w base g n cap ss) := by
  have kk := Kp.refl (fun i => i = g) w
  go_enter Try.func75, Try.ntmps75
  go_wp2_with fail
  go_loopw [6] (fun i wr => OutI w base g n cap ss i wr) (fun i _ => n + 1 - (intOf i).toNat)
  case atStart => exact ⟨1, ss, by omega, .inr rfl, rfl, List.Perm.refl _, fun p q h1 h2 => by omega, h, kk⟩
  case round =>
    clear kk h
    obtain ⟨k, l, hk1, hkn, rfl, hP, hS, hR, kk⟩ := hrel
    by_cases hlt : k < n
    · have hI : InsI l k k := fun p q h1 h2 h3 => hS p q h1 (by omega)
      have hPH := Lib.hid hP
      have hIH := Lib.hid hI
      have hRH := Lib.hid hR
      clear hP hS hI hR
      go_wp2_with fail
      go_loopw [7] (fun j wr => InI w base g n cap k ss j wr) (fun j _ => (intOf j).toNat)
      case atStart => exact ⟨k, l, by omega, rfl, hPH.out, hIH.out, hRH.out, kk⟩
      case round =>
        clear kk hPH hIH hRH
        obtain ⟨j, l, hjk, rfl, hP, hI, hR, kk⟩ := hrel
        have hl := hR.2
        have hP := Lib.hid hP
        have hI := Lib.hid hI
        have hR := Lib.hid hR
        by_cases hj : 0 < j
        · have hd : decide (0 < j) = true := decide_eq_true hj
          have wj : IntKind.i64.wrap ((j : Int) - 1) = ((j - 1 : Nat) : Int) := by rw [IntWalk.i64_in _ ⟨by omega, by omega⟩]; omega
          have c1 := hR.out.cell (show j < n by omega)
          have c2 := hR.out.cell (show j - 1 < n by omega)
          have hj1 : ((j - 1 : Nat) : Int) < (n : Int) := by omega
          have hj2 : (j : Int) < (n : Int) := by omega
          by_cases hless : gN l j < gN l (j - 1)
          · have hl1 : decide (gN l j < gN l (j - 1)) = true := decide_eq_true hless
            have hlessH := Lib.hid hless
            clear hless
            go_wp2_with fail
            go_quiet (first | (go_at_call 81; refine Calls.quiet_of_same (less_num _ _ _)))
            have hR := Lib.hid (hR.out.drewN nq)
            have kk := kk.drewN nq
            have c1 := hR.out.cell (show j < n by omega)
            have c2 := hR.out.cell (show j - 1 < n by omega)
            have f1 := hR.out.1.frozenAt j
            have f2 := hR.out.1.frozenAt (j - 1)
            generalize wr.drewN nq = W at *
            have hne : ¬ j = j - 1 := by omega
            have hne2 : ¬ j - 1 = j := by omega
            clear hd hl1
            go_wp2_with fail
            go_region
            have hR2 := Lib.hid ((hR.out.set (show j < n by omega) (gN l (j - 1))).set (show j - 1 < n by omega) (gN l j))
            have kk2 := ((kk.set1 j (.int .u64 (gN l (j - 1)))).set1 (j - 1) (.int .u64 (gN l j))).drew
            have hI2 := Lib.hid (insI_swap hI.out hj hjk (by rw [hl]; exact hlt) hlessH.out)
            have hP2 := Lib.hid ((swap_perm (l := l) (i := j - 1) (j := j) (by rw [hl]; omega) (by rw [hl]; omega)).trans hP.out)
            clear c1 c2 f1 f2 hne hne2
            go_wp2_with fail
            go_roundw
            case rel => exact ⟨j - 1, _, by omega, rfl, hP2.out, hI2.out, hR2.out, kk2⟩
            case measure => simp [intOf]; omega
          · have hl1 : decide (gN l j < gN l (j - 1)) = false := decide_eq_false hless
            have hE := Lib.hid (insI_end hI.out (.inr (by omega)))
            clear hless
            go_wp2_with fail
            go_quiet (first | (go_at_call 81; refine Calls.quiet_of_same (less_num _ _ _)))
            have hR := Lib.hid (hR.out.drewN nq)
            have kk := kk.drewN nq
            clear c1 c2 hd hl1
            go_wp2_with fail
            first
            | exact ⟨⟨k + 1, l, by omega, by omega, by go_num, hP.out, hE.out, hR.out, kk⟩, by simp [intOf]; omega⟩
            | (go_roundw
               case rel => exact ⟨k + 1, l, by omega, by omega, by go_num, hP.out, hE.out, hR.out, kk⟩
               case measure => simp [intOf]; omega)
        · have hd : decide (0 < j) = false := decide_eq_false hj
          have hE := Lib.hid (insI_end hI.out (.inl (by omega)))
          go_wp2_with fail
          go_quiet (fail)
          have hR := Lib.hid (hR.out.drewN nq)
          have kk := kk.drewN nq
          clear hd
          go_wp2_with fail
          first
          | exact ⟨⟨k + 1, l, by omega, by omega, by go_num, hP.out, hE.out, hR.out, kk⟩, by simp [intOf]; omega⟩
          | (go_roundw
             case rel => exact ⟨k + 1, l, by omega, by omega, by go_num, hP.out, hE.out, hR.out, kk⟩
             case measure => simp [intOf]; omega)
    · have hS2 : SrtI l l.length := fun p q h1 h2 => hS p q h1 (by have := hR.2; omega)
      have hfin := Lib.hid (And.intro hP (And.intro (srtI_pair hS2) hR))
      clear hP hS hR hS2
      go_wp2_with fail
      go_end0
      exact ⟨rfl, l, hfin.out.1, hfin.out.2.1, hfin.out.2.2, kk⟩

/-- slices.Sort, at most 12 of them, in a row of the call's own. -/
theorem prog_sortz (base g n cap : Nat) (ss : List Int) (w : World) (h : RowZ w base g n cap ss) (hn : n ≤ 12) :
    Calls Try.prog 50 #[.slice (some ⟨g, 0, none⟩) n cap] w (SortedPost w base g n cap ss) := by
  have hpd : ∀ lim : Int, Calls Try.prog 65 #[.slice (some ⟨g, 0, none⟩) n cap, .int .i64 0, .int .i64 n, .int .i64 lim] w (SortedPost w base g n cap ss) := by
    intro lim
    have hI := Lib.hid (ins_sort base g n cap ss w h (by omega))
    have hd : decide ((n : Int) ≤ 12) = true := decide_eq_true (by omega)
    clear h
    go_enter Try.func65, Try.ntmps65
    go_wp2_with fail
    go_loopw [1, 2] (fun a b wr => a = .int .i64 0 ∧ b = .int .i64 n ∧ w = wr) (fun _ _ _ => 0)
    case atStart => exact ⟨rfl, rfl, rfl⟩
    case round =>
      obtain ⟨rfl, rfl, rfl⟩ := hrel
      go_wp2_with fail
      refine hI.out.mono ?_
      rintro e w1 ⟨rfl, hl⟩
      have hl := Lib.hid hl
      clear hI
      go_wp2_with fail
      refine bodyPost_ret (results_none rfl _ _ _) rfl ?_
      exact ⟨rfl, hl.out⟩
  have hb : ∀ w, Calls Try.prog 66 #[.int .u64 n] w fun e w' => e = .returned (.int .i64 (Lib.bitLen (n : Int).toNat)) ∧ w' = w := fun w => Try.bits_Len n w (by omega) (by omega)
  have hb := Lib.hid hb
  have hp := Lib.hid hpd
  have wn : IntKind.u64.wrap (n : Int) = (n : Int) := IntWalk.u64_in _ ⟨by omega, by omega⟩
  clear hpd h
  go_enter Try.func50, Try.ntmps50
  go_wp2_with fail
  refine (hb.out _).mono ?_
  rintro e w1 ⟨rfl, rfl⟩
  go_wp2_with fail
  refine (hp.out _).mono ?_
  rintro e w2 ⟨rfl, hl⟩
  have hl := Lib.hid hl
  clear hp hb
  go_wp2_with fail
  go_end0
  exact ⟨rfl, hl.out⟩

/-- slices.Sort of nothing. -/
theorem prog_sortz_nil (w : World) : Calls Try.prog 50 #[.slice none 0 0] w fun e w' => e = .returned (.tuple #[]) ∧ w = w' := by
  have hins : Calls Try.prog 75 #[.slice none 0 0, .int .i64 0, .int .i64 0] w fun e w' => e = .returned (.tuple #[]) ∧ w = w' := by
    go_enter Try.func75, Try.ntmps75
    go_wp2_with fail
    go_loopw [6] (fun i wr => i = .int .i64 1 ∧ w = wr) (fun _ _ => 0)
    case atStart => exact ⟨rfl, rfl⟩
    case round =>
      obtain ⟨rfl, rfl⟩ := hrel
      go_wp2_with fail
      go_end0
      exact ⟨rfl, rfl⟩
  have hpd : ∀ lim : Int, Calls Try.prog 65 #[.slice none 0 0, .int .i64 0, .int .i64 0, .int .i64 lim] w fun e w' => e = .returned (.tuple #[]) ∧ w = w' := by
    intro lim
    have hI := Lib.hid hins
    clear hins
    go_enter Try.func65, Try.ntmps65
    go_wp2_with fail
    go_loopw [1, 2] (fun a b wr => a = .int .i64 0 ∧ b = .int .i64 0 ∧ w = wr) (fun _ _ _ => 0)
    case atStart => exact ⟨rfl, rfl, rfl⟩
    case round =>
      obtain ⟨rfl, rfl, rfl⟩ := hrel
      go_wp2_with fail
      refine hI.out.mono ?_
      rintro e w1 ⟨rfl, rfl⟩
      clear hI
      go_wp2_with fail
      refine bodyPost_ret (results_none rfl _ _ _) rfl ?_
      exact ⟨rfl, rfl⟩
  have hb : ∀ w, Calls Try.prog 66 #[.int .u64 0] w fun e w' => e = .returned (.int .i64 (Lib.bitLen (0 : Int).toNat)) ∧ w' = w := fun w => Try.bits_Len 0 w (by omega) (by omega)
  have hb := Lib.hid hb
  have hp := Lib.hid hpd
  clear hpd hins
  go_enter Try.func50, Try.ntmps50
  go_wp2_with fail
  refine (hb.out _).mono ?_
  rintro e w1 ⟨rfl, rfl⟩
  go_wp2_with fail
  refine (hp.out _).mono ?_
  rintro e w2 ⟨rfl, rfl⟩
  clear hp hb
  go_wp2_with fail
  go_end0
  exact ⟨rfl, rfl⟩

def OwnK (w : World) (base : Nat) (v : Value) (l : List Int) : Prop := OwnR 23 (fun n => .int .u64 n) w base v l

theorem pair_eq {l l' : List Int} (hp : l.Perm l') (h : l.Pairwise (· ≤ ·)) (h' : l'.Pairwise (· ≤ ·)) : l = l' :=
  List.Perm.eq_of_pairwise (le := (· ≤ ·)) (fun a b _ _ h1 h2 => by omega) h h' hp

/-- slices.Sorted(maps.Keys(m)): the keys in order. -/
theorem prog_sorted (Bm b : Nat) (m : List (Int × Value)) (hlen : m.length ≤ 12) (w : World) (hBm : Bm < w.heap.size) (hm : w.cell? ⟨Bm, 0, none⟩ = some (.map (some b))) (hown : MapAt w b kvK m) (zs : List Int) (hz : zs.Perm (m.map (·.1))) (hzs : zs.Pairwise (· ≤ ·)) :
    Calls Try.prog 32 #[.func (.func 51) #[] #[.pointer (some ⟨Bm, 0, none⟩)]] w fun e w' => ∃ v, e = .returned v ∧ OwnK w' w.heap.size v zs ∧ (zs = [] → v = .slice none 0 0) ∧ Kp (fun _ => False) w w' := by
  have hC := Lib.hid (prog_collect Bm b m (by omega) w hBm hm hown)
  clear hm hown hBm
  go_enter Try.func32, Try.ntmps32
  go_wp2_with fail
  refine hC.out.mono ?_
  rintro e w1 ⟨v, ss, rfl, hP, hrow, hnl, hb⟩
  have hl : ss.length = m.length := by have := hP.length_eq; simpa using this
  clear hC
  have hrow2 := hrow
  rcases hrow.2 with ⟨rfl, h0⟩ | ⟨g, cap, cur, rfl, hbg, hg, hcap, hm, -⟩
  · obtain rfl : ss = [] := List.eq_nil_of_length_eq_zero h0
    have hzn : zs = [] := List.Perm.eq_nil (hz.trans hP.symm)
    have hS := Lib.hid (prog_sortz_nil w1)
    have hbH := Lib.hid hb
    clear hrow hrow2 hP hz hb
    subst hzn
    go_wp2_with fail
    refine hS.out.mono ?_
    rintro e w2 ⟨rfl, rfl⟩
    go_wp2_with fail
    go_ret
    exact ⟨_, rfl, OwnR.nil _ _ _ _, by first | exact rfl | exact fun _ => rfl, Kp.of_below _ hbH.out⟩
  · have hS := Lib.hid (prog_sortz w.heap.size g ss.length cap ss w1 ⟨hrow2, rfl⟩ (by omega))
    have hbH := Lib.hid hb
    have hPH := Lib.hid hP
    have hzH := Lib.hid hz
    have hnl := Lib.hid hnl
    clear hrow hrow2 hP hb hg hl
    go_wp2_with fail
    refine hS.out.mono ?_
    rintro e w2 ⟨rfl, l, hl1, hl2, hl3, hk⟩
    have he : l = zs := pair_eq (hl1.trans (hPH.out.trans hz.symm)) hl2 hzs
    subst he
    have hfin := Lib.hid (And.intro hl3 hk)
    clear hS hl1 hl2 hl3 hk hzs hz
    go_wp2_with fail
    go_ret
    have h3 := hfin.out.1
    refine ⟨_, rfl, ?_, fun e => (by subst e; have q := hnl.out (List.Perm.eq_nil (hPH.out.trans hzH.out.symm)); cases q), Kp.of_below _ (hfin.out.2.below_of hbH.out hbH.out.size (fun i hi => by rw [hi]; exact hbg))⟩
    have e1 : ss.length = l.length := h3.2.symm
    rw [e1]
    have := h3.1
    rw [e1] at this
    exact this
end Go.Proofs.Ytgaaonbjfhklbaa

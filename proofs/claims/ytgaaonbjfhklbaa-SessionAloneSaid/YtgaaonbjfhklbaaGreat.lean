/- The reference's Great of lists and of messages: it says something; where it says no, what is there is small. -/
import Derived.Test.YtgaaonbjfhklbaaSame2
namespace Go.Proofs.Ytgaaonbjfhklbaa
set_option linter.unusedVariables false
set_option linter.unusedSimpArgs false
open Go.RowKit

def SmallTags (l : List ByteArray) : Prop := l.length ≤ 300 ∧ ∀ s ∈ l, s.size < 20000
def SmallItem (x : ItemC) : Prop := x.vec.length < 50000 ∧ SmallTags x.tags
def GreatRelC (w : World) (l : List ChangeC) (n i : Value) (wr : World) : Prop := ∃ (k : Nat) (m : Int), k ≤ l.length ∧ i = .int .i64 k ∧ n = .int .i64 m ∧ (k : Int) ≤ m ∧ m < 110000 ∧ (∀ j (h : j < l.length), j < k → m < 50000 → (l[j].item.vec.length : Int) < 50000 ∧ SmallTags l[j].item.tags) ∧ Kp (fun _ => False) w wr

theorem changes_great (v : Value) (l : List ChangeC) (w : World) (h : Changes w v l) :
    Calls Try.prog 23 #[v] w (SomeBool (l.length < 50000 ∧ ∀ c ∈ l, SmallItem c.item) w) := by
  obtain ⟨A, cap, rfl, hlc, hcm, hrow⟩ := h
  have hlm : l.length ≤ 9223372036854775807 := by simp only [maxLen] at hcm; omega
  clear hlc hcm
  go_enter Try.func23, Try.ntmps23
  go_wp2_with fail
  go_loopw [3, 4] (fun n i wr => GreatRelC w l n i wr) (fun _ i _ => l.length - (intOf i).toNat)
  case atStart => exact ⟨0, 0, by omega, rfl, rfl, by omega, by omega, fun j _ h _ => absurd h (by omega), Kp.refl _ _⟩
  case round =>
    obtain ⟨k, m, hk, rfl, rfl, hm0, hm1, hall, kk⟩ := hrel
    by_cases hlt : k < l.length ∧ m < 50000
    · obtain ⟨hlt, hm2⟩ := hlt
      obtain ⟨b, off, es, rfl, hl2, hc, v, t, rfl, hv, ht⟩ := hrow k hlt
      obtain ⟨vA, vc, rfl, _⟩ := hv
      have c2 : wr.cell? ⟨b, off + k * 4 + 2, none⟩ = some (.slice vA l[k].item.vec.length vc) := kk.cell0 ((hc 2 (by omega)).trans rfl)
      have c3 : wr.cell? ⟨b, off + k * 4 + 3, none⟩ = some t := kk.cell0 ((hc 3 (by omega)).trans rfl)
      replace ht := ht.keeps (Keeps.kp kk)
      clear hrow hc
      generalize hx : l[k].item = x at *
      by_cases hbig : 50000 < (x.vec.length : Int)
      all_goals
        go_wp2_with fail
        refine (strs_great _ _ _ ht).mono ?_
        rintro e w1 ⟨g, rfl, hg, k1⟩
        have kk := kk.trans k1
        clear k1 c2 c3 ht
        cases g
        · replace hg : SmallTags x.tags := hg rfl
          go_wp2_with fail
          refine ⟨⟨k + 1, _, by omega, by go_num, rfl, ?_, ?_, fun j hj hjk hmm => ?_, kk⟩, by simp [intOf]; omega⟩
          · omega
          · omega
          · by_cases hjj : j = k
            · subst hjj
              rw [hx]
              exact ⟨by omega, hg⟩
            · exact hall j hj (by omega) hm2
        · clear hg
          go_wp2_with fail
          go_ret
          exact ⟨_, rfl, by simp, kk⟩
    · by_cases hm2 : m < 50000
      · have hkl : k = l.length := by omega
        subst hkl
        have hs : l.length < 50000 ∧ ∀ c ∈ l, SmallItem c.item := ⟨by omega, fun s hs => by
          obtain ⟨j, hj, rfl⟩ := List.mem_iff_getElem.1 hs
          have := hall j hj hj hm2
          exact ⟨by omega, this.2⟩⟩
        clear hall hrow hlt
        go_wp2_with fail
        go_ret
        exact ⟨_, rfl, fun _ => hs, kk⟩
      · have hge : 50000 ≤ m := by omega
        clear hall hrow
        have hcase : (decide (k < l.length) = false) ∨ ((decide (k < l.length) = true) ∧ ¬ m < 50000) := by
          by_cases h : k < l.length
          · exact .inr ⟨by simpa using h, by omega⟩
          · exact .inl (by simpa using h)
        clear hlt
        rcases hcase with hl | ⟨hl, hl2⟩
        all_goals
          go_wp2_with fail
          go_ret
          exact ⟨_, rfl, by simp, kk⟩
end Go.Proofs.Ytgaaonbjfhklbaa

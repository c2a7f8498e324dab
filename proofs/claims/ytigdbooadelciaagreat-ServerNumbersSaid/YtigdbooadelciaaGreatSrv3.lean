/- The server while there are only new connections: Close, and what isn't there. -/
import Derived.Test.YtigdbooadelciaaGreatSrv2
namespace Go.Proofs.YtigdbooadelciaaGreat
set_option linter.unusedVariables false
set_option linter.unusedSimpArgs false
open Go.RowKit

section
variable {w : World} {B bs be bh bm bc bl : Nat} {last : Int} {ks : List (Int × Nat)} {cs : ConL}
set_option maxHeartbeats 1000000 in
/-- The hub: a new connection is closed. -/
theorem hub_close_new {caps size away lst : Int} (n now : Int) (h : HubAt w B bh bc bl caps size away lst cs []) {b : Nat} (hl : lookN cs n = some (b, none)) : Calls Tryz.prog 20 #[.pointer (some ⟨bh, 0, none⟩), .int .i64 n, .int .u32 now] w fun e w' => e = .returned (.bool true) ∧ HubAt w' B bh bc bl caps size away lst (delN cs n) [] ∧ Kp (fun i => i = bc) w w' := by
  obtain ⟨h0, h1, h2, h3, h4, h5⟩ := h.cells
  have hlk := look_con h n
  rw [hl] at hlk
  simp only [Option.map_some, Option.getD_some] at hlk
  have hm := lookN_mem hl
  have hcon := (h.con _ hm).2
  obtain ⟨w9, hrun0, hM9, hk9, hsz9⟩ := h.cm.del keyI (P := Tryz.prog) (ty := 0) Tryz.underlying109 n
  have hrun : (Builtin.delete_ #[109, 3] 0 #[.map (some bc), .int .i64 n]).run Tryz.prog w = .ok (.tuple #[]) w9 := hrun0
  have hD := h.delCon n hM9 hk9
  have hbb : b ≠ bc := fun e => h.cm.ne_blk hcon e.symm
  have hcon9 := Blk.kp hcon hk9 hbb
  have c1 : w9.cell? ⟨b, 1, none⟩ = some (.pointer none) := (Blk.cell hcon9 1).trans rfl
  clear h hl hM9 hsz9 hrun0 hcon9 hcon
  go_enter Tryz.func20, Tryz.ntmps20
  go_wp2_with fail
  go_ret
  exact ⟨rfl, hD, hk9⟩

theorem close_none (n : Int) (h : NumAt w B bs be bh bm bc bl last ks cs) (hn : n ∉ ks.map (·.1)) : Calls Tryz.prog 8 #[.pointer (some ⟨bs, 0, none⟩), .int .i64 n] w fun e w' => e = .returned (.bool false) ∧ w = w' := by
  obtain ⟨c7, c8, c9, c10, f9⟩ := h.cells
  have hlk := look_srv h n hn
  clear h
  go_enter Tryz.func8, Tryz.ntmps8
  go_wp2_with fail
  go_ret
  exact ⟨rfl, rfl⟩
theorem waits_none (n : Int) (h : NumAt w B bs be bh bm bc bl last ks cs) (hn : n ∉ ks.map (·.1)) : Calls Tryz.prog 12 #[.pointer (some ⟨bs, 0, none⟩), .int .i64 n] w fun e w' => e = .returned (.int .i64 0) ∧ w = w' := by
  obtain ⟨c7, c8, c9, c10, f9⟩ := h.cells
  have hlk := look_srv h n hn
  clear h
  go_enter Tryz.func12, Tryz.ntmps12
  go_wp2_with fail
  go_ret
  exact ⟨rfl, rfl⟩
theorem in_none (n : Int) (v : Value) (h : NumAt w B bs be bh bm bc bl last ks cs) (hn : n ∉ ks.map (·.1)) : Calls Tryz.prog 10 #[.pointer (some ⟨bs, 0, none⟩), .int .i64 n, v] w fun e w' => e = .returned (.tuple #[.int .i64 0, .int .i64 2]) ∧ w = w' := by
  obtain ⟨c7, c8, c9, c10, f9⟩ := h.cells
  have hlk := look_srv h n hn
  clear h
  go_enter Tryz.func10, Tryz.ntmps10
  go_wp2_with fail
  go_ret2
  exact ⟨rfl, rfl⟩
theorem out_none (n k : Int) (h : NumAt w B bs be bh bm bc bl last ks cs) (hn : n ∉ ks.map (·.1)) : Calls Tryz.prog 11 #[.pointer (some ⟨bs, 0, none⟩), .int .i64 n, .int .i64 k] w fun e w' => e = .returned (.tuple #[.slice none 0 0, .bool false]) ∧ w = w' := by
  obtain ⟨c7, c8, c9, c10, f9⟩ := h.cells
  have hlk := look_srv h n hn
  clear h
  go_enter Tryz.func11, Tryz.ntmps11
  go_wp2_with fail
  go_ret2
  exact ⟨rfl, rfl⟩

theorem delK (l : List (Int × Nat)) (n : Int) : delM (kptr l) n = kptr (l.filter fun p => decide (p.1 ≠ n)) := by
  unfold delM kptr
  rw [List.filter_map]
  rfl
theorem filt_len {α : Type} (f : α → Int) : ∀ (l : List α) (n : Int), (l.map f).Nodup → n ∈ l.map f → (l.filter fun p => decide (f p ≠ n)).length + 1 = l.length
  | [], n, _, h => by simp at h
  | p :: l, n, hd, h => by
    simp only [List.map_cons, List.nodup_cons] at hd
    by_cases e : f p = n
    · have : l.filter (fun p => decide (f p ≠ n)) = l := by
        rw [List.filter_eq_self]
        intro q hq
        have : f q ≠ n := fun e2 => hd.1 (by rw [e, ← e2]; exact List.mem_map.2 ⟨q, hq, rfl⟩)
        simpa using this
      rw [List.filter_cons_of_neg (by simpa using e), this]
      rfl
    · have hm : n ∈ l.map f := by
        rcases List.mem_cons.1 h with h | h
        · exact absurd h.symm e
        · exact h
      rw [List.filter_cons_of_pos (by simpa using e)]
      have := filt_len f l n hd.2 hm
      simp only [List.length_cons]
      omega
def CloPost (w : World) (B bs be bh bm bc bl : Nat) (last : Int) (ks : List (Int × Nat)) (cs : ConL) (e : Ending) (w' : World) : Prop :=
  e = .returned (.bool true) ∧ ∃ ks' cs', NumAt w' B bs be bh bm bc bl last ks' cs' ∧ ks'.length + 1 = ks.length ∧ Below B w w'
set_option maxRecDepth 100000 in
theorem close_some (n : Int) (h : NumAt w B bs be bh bm bc bl last ks cs) (hB : B ≤ w.heap.size) (hn : n ∈ ks.map (·.1)) : Calls Tryz.prog 8 #[.pointer (some ⟨bs, 0, none⟩), .int .i64 n] w (CloPost w B bs be bh bm bc bl last ks cs) := by
  obtain ⟨c7, c8, c9, c10, f9⟩ := h.cells
  obtain ⟨k, hlk⟩ := look_srv_some h n hn
  have hnc : n ∈ cs.map (·.1) := by rw [← h.keys]; exact hn
  obtain ⟨q, hq, hqn⟩ := List.mem_map.1 hnc
  obtain ⟨q1, q2, q3⟩ := q
  have hqn : q1 = n := hqn
  subst hqn
  have hq3 : q3 = none := h.new _ hq
  subst hq3
  have hl := lookN_of_mem h.hub.ckeys hq
  obtain ⟨w9, hrun0, hM9, hk9, hsz9⟩ := h.km.del keyI (P := Tryz.prog) (ty := 0) (t := 65) Tryz.underlying65 q1
  have hrun : (Builtin.delete_ #[65, 3] 0 #[.map (some bm), .int .i64 q1]).run Tryz.prog w = .ok (.tuple #[]) w9 := hrun0
  have hbm : bm ≠ bs := h.km.ne_blk h.blk
  have hub9 := h.hub.other h.km hk9 h.ne1 h.ne2
  have hblk9 := h.blk.kp hk9 (Ne.symm hbm)
  have d7 : w9.drew.cell? ⟨bs, 7, none⟩ = some (.pointer (some ⟨bh, 0, none⟩)) := (hblk9.cell 7).trans rfl
  have d10 : w9.drew.cell? ⟨bs, 10, none⟩ = some (.int .u32 0) := (hblk9.cell 10).trans rfl
  have hhub := hub_close_new (n := q1) (now := 0) (hub9.kp0 (Kp.refl _ w9).drew) hl
  have hbs2 : bs ≠ bc := fun e => h.hub.cm.ne_blk h.blk e.symm
  have hfin : Hid (∀ w2, HubAt w2 B bh bc bl 3 4 100 0 (delN cs q1) [] → Kp (fun i => i = bc) w9.drew w2 → CloPost w B bs be bh bm bc bl last ks cs (.returned (.bool true)) w2) := by
    intro w2 g1 g2
    rw [delK] at hM9
    have hkeys : (ks.map (·.1)).Nodup := by rw [h.keys]; exact h.hub.ckeys
    have hbs : bs ≠ bc := fun e => h.hub.cm.ne_blk h.blk e.symm
    refine ⟨rfl, _, _, ⟨hblk9.drew.kp g2 hbs, hM9.drew.kp g2 h.ne1, g1, ?_, ?_, ?_, h.ne1, h.ne2, h.hbs, h.hbm⟩, filt_len _ ks q1 hkeys hn, ?_⟩
    · exact fun p hp => h.new p (List.mem_filter.1 hp).1
    · have : ∀ (l : List (Int × Nat)) (c : ConL), l.map (·.1) = c.map (·.1) → (l.filter fun p => decide (p.1 ≠ q1)).map (·.1) = (c.filter fun p => decide (p.1 ≠ q1)).map (·.1) := by
        intro l
        induction l with
        | nil => intro c e; cases c <;> simp_all
        | cons x l ih =>
          intro c e
          cases c with
          | nil => simp at e
          | cons y c =>
            simp only [List.map_cons, List.cons.injEq] at e
            by_cases hx : x.1 = q1
            · have hy : y.1 = q1 := by rw [← e.1]; exact hx
              simp [List.filter_cons, hx, hy] 
              simpa using ih c e.2
            · have hy : ¬ y.1 = q1 := by rw [← e.1]; exact hx
              simp [List.filter_cons, hx, hy, e.1]
              simpa using ih c e.2
      exact this ks cs h.keys
    · exact fun p hp => h.bds p (List.mem_filter.1 hp).1
    · have b1 : Below B w w9 := Kp.below_of (Below.refl _ _) hk9 hB (fun i e => by rw [e]; exact h.hbm)
      exact Kp.below_of b1 (((Kp.refl (fun _ => False) _).drew.mono (fun _ _ e => e.elim)).trans g2) (by omega) (fun i e => by rw [e]; exact h.hub.hbc)
  clear h hM9 hk9 hsz9 hub9 hrun0 hblk9 hl hq hnc
  go_enter Tryz.func8, Tryz.ntmps8
  go_wp2_with fail
  go_region_held3 (fun w' => w'.cell? ⟨bs, 7, none⟩ = some (.pointer (some ⟨bh, 0, none⟩)) ∧ w'.cell? ⟨bs, 10, none⟩ = some (.int .u32 0)) (first | exact ⟨d7, d10⟩ | exact ⟨g2.cell d7 hbs2, g2.cell d10 hbs2⟩ | go_keep) (first | (go_at_call 20; refine hhub.mono ?_; rintro e w2 ⟨rfl, g1, g2⟩))
  go_wp2_with fail
  go_ret
  exact hfin.out _ g1 g2
end
end Go.Proofs.YtigdbooadelciaaGreat

/- The server while there are only new connections: Accept, Close, and what isn't there. -/
import Derived.Test.YtigdbooadelciaaGreatSrv1
namespace Go.Proofs.YtigdbooadelciaaGreat
set_option linter.unusedVariables false
set_option linter.unusedSimpArgs false
open Go.RowKit

section
variable {w : World} {B bs be bh bm bc bl : Nat} {last : Int} {ks : List (Int × Nat)} {cs : ConL}
theorem NumAt.cells (h : NumAt w B bs be bh bm bc bl last ks cs) : w.cell? ⟨bs, 7, none⟩ = some (.pointer (some ⟨bh, 0, none⟩)) ∧ w.cell? ⟨bs, 8, none⟩ = some (.map (some bm)) ∧ w.cell? ⟨bs, 9, none⟩ = some (.int .i64 last) ∧ w.cell? ⟨bs, 10, none⟩ = some (.int .u32 0) ∧ w.frozen? ⟨bs, 9, none⟩ = false :=
  ⟨(h.blk.cell 7).trans rfl, (h.blk.cell 8).trans rfl, (h.blk.cell 9).trans rfl, (h.blk.cell 10).trans rfl, h.blk.frozen 9⟩
theorem NumAt.kp0 {w' : World} (h : NumAt w B bs be bh bm bc bl last ks cs) (k : Kp (fun _ => False) w w') : NumAt w' B bs be bh bm bc bl last ks cs :=
  ⟨h.blk.kp k id, h.km.kp k id, h.hub.kp0 k, h.new, h.keys, h.bds, h.ne1, h.ne2, h.hbs, h.hbm⟩
theorem NumAt.free (h : NumAt w B bs be bh bm bc bl last ks cs) {n : Int} (hn : n < 1 ∨ last < n) : lookN cs n = none := by
  cases hl : lookN cs n with
  | none => rfl
  | some q =>
    have := h.bds _ (lookN_mem hl)
    simp only at this
    omega
theorem look_kptr (l : List (Int × Nat)) (n : Int) : (lookM (kptr l) n).isSome = decide (n ∈ l.map (·.1)) := by
  unfold lookM kptr
  induction l with
  | nil => rfl
  | cons p l ih =>
    by_cases h : p.1 = n
    · simp [h]
    · have h' : ¬ n = p.1 := fun e => h e.symm
      simp only [List.map_cons, List.find?_cons, h, decide_false, List.mem_cons, h', false_or]
      exact ih
theorem look_srv (h : NumAt w B bs be bh bm bc bl last ks cs) (n : Int) (hn : n ∉ ks.map (·.1)) :
    (Instr.lookup 65 (.map (some bm)) (.int .i64 n) false).run Tryz.prog w = .ok (.pointer none) w := by
  have := h.km.look keyI (t := 65) (e := 68) Tryz.underlying65 (z := .pointer none) (Tryz.zeroValue68 w) n
  have hk := look_kptr ks n
  cases hl : lookM (kptr ks) n with
  | none => rw [hl] at this; exact this
  | some x => rw [hl] at hk; simp [hn] at hk
theorem look_srv_some (h : NumAt w B bs be bh bm bc bl last ks cs) (n : Int) (hn : n ∈ ks.map (·.1)) :
    ∃ k, (Instr.lookup 65 (.map (some bm)) (.int .i64 n) false).run Tryz.prog w = .ok (.pointer (some ⟨k, 0, none⟩)) w := by
  have := h.km.look keyI (t := 65) (e := 68) Tryz.underlying65 (z := .pointer none) (Tryz.zeroValue68 w) n
  have hk := look_kptr ks n
  cases hl : lookM (kptr ks) n with
  | none => rw [hl] at hk; simp only [Option.isSome_none] at hk; simp [hn] at hk
  | some x =>
    rw [hl] at this
    unfold lookM kptr at hl
    obtain ⟨p, hp, e⟩ := Option.map_eq_some_iff.1 hl
    have hm := List.mem_of_find?_eq_some hp
    obtain ⟨q, hq, e2⟩ := List.mem_map.1 hm
    rw [← e2] at e
    simp only at e
    exact ⟨q.2, by rw [e]; exact this⟩

theorem putK {ks : List (Int × Nat)} {n : Int} (k : Nat) (hn : n ∉ ks.map (·.1)) : putM (kptr ks) n (.pointer (some ⟨k, 0, none⟩)) = kptr (ks ++ [(n, k)]) := by
  unfold putM kptr
  rw [if_neg]
  · simp
  · intro hc
    obtain ⟨q, hq, e⟩ := List.any_eq_true.1 hc
    obtain ⟨p, hp, rfl⟩ := List.mem_map.1 hq
    exact hn (List.mem_map.2 ⟨p, hp, by simpa using e⟩)
theorem HubAt.other {w' : World} {bh bc bl : Nat} {caps size away lst : Int} {cs : ConL} (h : HubAt w B bh bc bl caps size away lst cs []) {bm : Nat} {m : List (Int × Value)} (hM : MapAt w bm kvI m) (k : Kp (fun g => g = bm) w w') (h1 : bm ≠ bc) (h2 : bm ≠ bl) : HubAt w' B bh bc bl caps size away lst cs [] :=
  ⟨h.blk.kp k (fun e => hM.ne_blk h.blk e.symm), h.cm.kp k (Ne.symm h1), h.lm.kp k (Ne.symm h2), fun p hp => ⟨(h.con p hp).1, Blk.kp (h.con p hp).2 k (fun e => hM.ne_blk (h.con p hp).2 e.symm)⟩, fun p hp => by simp at hp, h.hbh, h.hbc, h.hbl, h.maps, h.cnd, h.snd, h.dnd, h.wnd⟩
def AccPost (w : World) (B bs be bh bm bc bl : Nat) (last : Int) (ks : List (Int × Nat)) (cs : ConL) (e : Ending) (w' : World) : Prop :=
  e = .returned (.tuple #[.int .i64 (last + 1), .int .i64 0]) ∧ ∃ kb cb, NumAt w' B bs be bh bm bc bl (last + 1) (ks ++ [(last + 1, kb)]) (cs ++ [(last + 1, cb, none)]) ∧ Below B w w'
theorem wrap1 {n : Int} (h : 0 ≤ n ∧ n ≤ 1000) : IntKind.i64.wrap (n + 1) = n + 1 := by rw [IntKind.wrap_i64]; omega
set_option maxRecDepth 100000 in
theorem accept_full (h : NumAt w B bs be bh bm bc bl last ks cs) (h8 : 8 ≤ cs.length) (hl : 0 ≤ last ∧ last ≤ 1000) : Calls Tryz.prog 9 #[.pointer (some ⟨bs, 0, none⟩)] w fun e w' => e = .returned (.tuple #[.int .i64 0, .int .i64 4]) ∧ w.drew = w' := by
  have h := h.kp0 (Kp.refl _ w).drew
  obtain ⟨c7, c8, c9, c10, f9⟩ := h.cells
  have hw := wrap1 hl
  have ho := open_full (last + 1) h.hub (h.free (by omega)) h8
  clear h
  go_enter Tryz.func9, Tryz.ntmps9
  go_wp2_with fail
  go_region_held3 (fun w' => w'.cell? ⟨bs, 7, none⟩ = some (.pointer (some ⟨bh, 0, none⟩)) ∧ w'.cell? ⟨bs, 9, none⟩ = some (.int .i64 last)) (first | exact ⟨c7, c9⟩ | go_keep) (first | (go_at_call 21; (with_reducible refine ho.mono ?_); rintro e w' ⟨rfl, rfl⟩))
  go_wp2_with fail
  go_ret2
  exact ⟨rfl, rfl⟩
set_option maxRecDepth 100000 in
theorem accept_ok (h : NumAt w B bs be bh bm bc bl last ks cs) (hB : B ≤ w.heap.size) (h8 : cs.length < 8) (hl : 0 ≤ last ∧ last ≤ 1000) : Calls Tryz.prog 9 #[.pointer (some ⟨bs, 0, none⟩)] w (AccPost w B bs be bh bm bc bl last ks cs) := by
  have kd := (Kp.refl (fun _ => False) w).drew
  have h := h.kp0 kd
  obtain ⟨c7, c8, c9, c10, f9⟩ := h.cells
  have hw := wrap1 hl
  have ho := open_ok (last + 1) h.hub hB (h.free (by omega)) h8
  have hbs : bs ≠ bc := fun e => h.hub.cm.ne_blk h.blk e.symm
  have hblk := h.blk
  have hkm := h.km
  have hne1 := h.ne1
  have hbm : bm ≠ bs := h.km.ne_blk h.blk
  have hH := Lib.hid h
  clear h
  go_enter Tryz.func9, Tryz.ntmps9
  go_wp2_with fail
  go_region_held3 (fun w' => w'.cell? ⟨bs, 7, none⟩ = some (.pointer (some ⟨bh, 0, none⟩)) ∧ w'.cell? ⟨bs, 9, none⟩ = some (.int .i64 last)) (first | exact ⟨c7, c9⟩ | exact ⟨d7, d9⟩ | go_keep) (first | (go_at_call 21; (with_reducible refine ho.mono ?_); rintro e w1 ⟨cb, rfl, hub, hcb, kk⟩; have hblk2 := hblk.kp kk hbs; have d9 : w1.cell? ⟨bs, 9, none⟩ = some (.int .i64 last) := (hblk2.cell 9).trans rfl; have d7 : w1.cell? ⟨bs, 7, none⟩ = some (.pointer (some ⟨bh, 0, none⟩)) := (hblk2.cell 7).trans rfl; have g9 := hblk2.frozen 9))
  go_wp2_with fail
  have hkm3 := ((hkm.kp kk hne1).setCell ⟨bs, 9, none⟩ (.int .i64 (last + 1))).drew
  have hblk3 := (hblk2.set 9 (.int .i64 (last + 1))).drew
  have e8 : (w1.setCell ⟨bs, 9, none⟩ (.int .i64 (last + 1))).drew.cell? ⟨bs, 8, none⟩ = some (.map (some bm)) := (hblk3.cell 8).trans rfl
  have e9 : (w1.setCell ⟨bs, 9, none⟩ (.int .i64 (last + 1))).drew.cell? ⟨bs, 9, none⟩ = some (.int .i64 (last + 1)) := (hblk3.cell 9).trans rfl
  have e10 : (w1.setCell ⟨bs, 9, none⟩ (.int .i64 (last + 1))).drew.cell? ⟨bs, 10, none⟩ = some (.int .u32 0) := (hblk3.cell 10).trans rfl
  go_region_held3 (fun w' => w'.cell? ⟨bs, 8, none⟩ = some (.map (some bm)) ∧ w'.cell? ⟨bs, 9, none⟩ = some (.int .i64 (last + 1)) ∧ w'.cell? ⟨bs, 10, none⟩ = some (.int .u32 0)) (first | with_reducible exact ⟨e8, e9, e10⟩ | with_reducible exact ⟨k2.cell0 e8, k2.cell0 e9, k2.cell0 e10⟩ | with_reducible exact ⟨k2.cell0 (((Kp.refl (fun _ => False) _).alloc _).cell0 e8), k2.cell0 (((Kp.refl (fun _ => False) _).alloc _).cell0 e9), k2.cell0 (((Kp.refl (fun _ => False) _).alloc _).cell0 e10)⟩ | with_reducible exact ⟨(hblk9.cell 8).trans rfl, (hblk9.cell 9).trans rfl, (hblk9.cell 10).trans rfl⟩ | exact ⟨(hblk9.cell 8).trans rfl, (hblk9.cell 9).trans rfl, (hblk9.cell 10).trans rfl⟩ | go_keep) (first | (go_at_call 22; refine (fnew_calls _).mono ?_; rintro e w2 ⟨r, rfl, k2⟩; obtain ⟨w9, hrun0, hM9, k9, hs9⟩ := ((hkm3.kp k2 id).alloc (.cells #[.pointer (some ⟨r, 0, none⟩), .slice none 0 0, .bool false, .int .u32 0] 74)).put keyI (P := Tryz.prog) (t := 65) Tryz.underlying65 (last + 1) (.pointer (some ⟨w2.heap.size, 0, none⟩)); have hrun : (Instr.mapUpdate 65 (.map (some bm)) (.int .i64 (last + 1)) (.pointer (some ⟨w2.heap.size, 0, none⟩))).run Tryz.prog (w2.alloc (.cells #[.pointer (some ⟨r, 0, none⟩), .slice none 0 0, .bool false, .int .u32 0] 74)) = .ok () w9 := hrun0; clear hrun0; have hblk9 := (((hblk3.kp k2 id).alloc (.cells #[.pointer (some ⟨r, 0, none⟩), .slice none 0 0, .bool false, .int .u32 0] 74))).kp k9 (Ne.symm hbm)))
  have z9 : w9.cell? ⟨bs, 9, none⟩ = some (.int .i64 (last + 1)) := (hblk9.cell 9).trans rfl
  go_wp2_with fail
  go_ret2
  have h := hH.out
  have hn : last + 1 ∉ ks.map (·.1) := by
    rw [h.keys]
    intro hm
    obtain ⟨p, hp, e⟩ := List.mem_map.1 hm
    have := h.bds p hp
    have e : p.1 = last + 1 := e
    omega
  rw [putK _ hn] at hM9
  have hub2 := hub.foreign hblk2 ((Kp.refl (fun g => g = bs) _).set1 9 (.int .i64 (last + 1))) (by decide) (by decide) (by decide) (by decide) (by decide)
  have hub3 := ((hub2.kp0 (Kp.refl _ _).drew).kp0 k2).kp0 ((Kp.refl _ _).alloc (.cells #[.pointer (some ⟨r, 0, none⟩), .slice none 0 0, .bool false, .int .u32 0] 74))
  have hub9 := hub3.other ((hkm3.kp k2 id).alloc _) k9 h.ne1 h.ne2
  refine ⟨rfl, w2.heap.size, cb, ⟨hblk9, hM9, hub9, ?_, ?_, ?_, h.ne1, h.ne2, h.hbs, h.hbm⟩, ?_⟩
  · intro p hp
    rcases List.mem_append.1 hp with hp | hp
    · exact h.new p hp
    · simp at hp; subst hp; rfl
  · simp [h.keys]
  · intro p hp
    rcases List.mem_append.1 hp with hp | hp
    · have := h.bds p hp; omega
    · simp at hp; subst hp; simp only; omega
  · have b1 : Below B w w1 := (Kp.below_of (w := w.drew) (kd.below.mono hB) kk hB (fun i e => by rw [e]; exact h.hub.hbc))
    have b2 : Below B w (w1.setCell ⟨bs, 9, none⟩ (.int .i64 (last + 1))) := Kp.below_of b1 ((Kp.refl (fun g => g = bs) _).set1 9 _) (Nat.le_trans hB kk.size) (fun i e => by rw [e]; exact h.hbs)
    have b3 : Below B w w2 := Kp.below_of b2 ((Kp.refl (fun _ => False) _).drew.trans k2) (by simp [World.setCell]; exact Nat.le_trans hB kk.size) (fun i e => e.elim)
    have s2 : B ≤ w2.heap.size := Nat.le_trans (by simp [World.setCell]; exact Nat.le_trans hB kk.size) ((Kp.refl (fun _ => False) _).drew.trans k2).size
    have b4 : Below B w (w2.alloc (.cells #[.pointer (some ⟨r, 0, none⟩), .slice none 0 0, .bool false, .int .u32 0] 74)) := Kp.below_of b3 ((Kp.refl (fun _ => False) _).alloc _) s2 (fun i e => e.elim)
    exact Kp.below_of b4 k9 (by simp; omega) (fun i e => by rw [e]; exact h.hbm)
end
end Go.Proofs.YtigdbooadelciaaGreat

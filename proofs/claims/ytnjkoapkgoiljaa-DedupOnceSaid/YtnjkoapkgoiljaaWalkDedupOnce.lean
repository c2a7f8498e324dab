/- DedupOnce: each number is Fresh once, in order; from then on it is Again with its answer, till it is Past for ever: the walk. -/
import Derived.Test.YtnjkoapkgoiljaaDedupAlive
import Derived.Test.YtnjkoapkgoiljaaDedupLists
import Derived.Test.YtnjkoapkgoiljaaCameT
import Derived.Test.YtnjkoapkgoiljaaApd
namespace Go.Proofs.Ytnjkoapkgoiljaa
open Go.RowKit

theorem load69 (ρ : Operand → Value) (dst : Option Tmp) (x : Operand) (ty : TypeId) (pos : String) (after : Array Edge) (gd : Option (Nat × Bool)) (w : World)
    (hp : isPtrA (ρ x) = true) (h : (rdAt w (adrOf (ρ x)) 30).isSome = true) : (execOp ρ ⟨dst, .load 69 x, ty, pos, after, gd⟩).run Try.prog w = .ok (.value (.agg ((rdAt w (adrOf (ρ x)) 30).getD #[]))) w :=
  ex_load_at (P := Try.prog) Try.underlying69 rfl (by kernel_rfl) ρ dst x ty pos after gd w hp h
theorem store69 (ρ : Operand → Value) (dst : Option Tmp) (x y : Operand) (ty : TypeId) (pos : String) (after : Array Edge) (gd : Option (Nat × Bool)) (w : World)
    (hp : isPtr0 (ρ x) = true) (hy : isAggV (ρ y) = true) (h : (rowOf w (blkOf (ρ x))).size = 30) (hc : (ρ y).cells.size = 30) (h1 : oneB (ρ y).cells = true) :
    (execOp ρ ⟨dst, .store 69 x y, ty, pos, after, gd⟩).run Try.prog w = .ok .skip (w.setRow (blkOf (ρ x)) (ρ y).cells) :=
  ex_store (P := Try.prog) (by kernel_rfl) (by decide) ρ dst x y ty pos after gd w hp hy h hc h1
def zOp : Array Value := #[.int .u8 0, .int .u32 0] ++ zMsg
theorem zOp_size : zOp.size = 30 := rfl
theorem alloc69 (ρ : Operand → Value) (dst : Option Tmp) (ty : TypeId) (pos : String) (after : Array Edge) (gd : Option (Nat × Bool)) (w : World) :
    (execOp ρ ⟨dst, .alloc 69, ty, pos, after, gd⟩).run Try.prog w = .ok (.value (.pointer (some ⟨w.heap.size, 0, none⟩))) (w.alloc (.cells zOp 69)) :=
  ex_alloc (P := Try.prog) (fun w => by kernel_rfl) ρ dst ty pos after gd w
attribute [local go_sem ↓] load67 store67 alloc67 build67 build67_5 build67_14 build67_5c build67_14c load69 store69 alloc69
attribute [local go_sem] rowOf_new rowOf_drew rowOf_setCell setRow_alloc isPtr0_ptr blkOf_ptr isAggV_agg cells_agg zMsg_size zMsg_one mset_size mset_one mset5 mset21 isU32_int adrOf_ptr isPtrA_ptr zOp_size

theorem u8o {n : Int} (h : (Lit.int .u8 n).wf = true) : 0 ≤ n ∧ n < 256 := by
  have := bounds_u8 h
  omega
theorem u32o {n : Int} (h : (Lit.int .u32 n).wf = true) : 0 ≤ n ∧ n < 4294967296 := by
  have := bounds_u32 h
  omega

/-- Operations that came in. -/
def OpsO (w : World) (A : Option Addr) (len : Nat) : Prop :=
  len ≤ maxLen ∧ ∀ i, i < len → ∃ b off es kd far, A = some ⟨b, off, none⟩ ∧ b < w.heap.size ∧ rdAt w ⟨b, off + i * 30, none⟩ 30 = some es ∧ es.size = 30 ∧ oneB es = true ∧ es[0]? = some (.int .u8 kd) ∧ es[1]? = some (.int .u32 far) ∧ 0 ≤ kd ∧ kd < 256 ∧ 0 ≤ far ∧ far < 4294967296

theorem add_plain' (b o i : Nat) : (⟨b, o, none⟩ : Addr).add i = ⟨b, o + i, none⟩ := add_form b o i

theorem OpsO.of_came {w : World} {v : Value} (h : Came Try.prog w 51 v) : ∃ A len cap, v = .slice A len cap ∧ OpsO w A len := by
  obtain ⟨A, len, cap, rfl, h1, h2, h3⟩ := Came.slIn Try.underlying51 cells69 (by decide) h
  refine ⟨A, len, cap, rfl, by omega, fun i hi => ?_⟩
  obtain ⟨b, off, es, rfl, hl, he, hc⟩ := h3 i hi
  obtain ⟨kd, far, r⟩ := came69 hc
  obtain ⟨x2, x3, x4, x5, x6, x7, x8, x9, x10, x11, x12, x13, x14, a1, a2, a3, x15, a4, a5, a6, x16, x17, a7, a8, a9, b1, b2, b3, b4, b5, b6, x18, x19, b7, b8, b9, x20, d1, d2, d3, d4, d5, d6, d7, d8, d9, rfl, hkd, hfar, _⟩ := r
  have hkd := u8o hkd
  have hfar := u32o hfar
  have hb : b < w.heap.size := World.block_lt_of_cell? w ⟨b, off + i * 30 + 0, none⟩ (he 0 (by decide))
  refine ⟨b, off, _, kd, far, rfl, hb, rdAt_of (a := ⟨b, off + i * 30, none⟩) (fun j hj => by rw [add_plain']; exact he j (by rw [hl] at hj; exact hj)), hl, ?_, rfl, rfl, hkd.1, hkd.2, hfar.1, hfar.2⟩
  rfl

theorem OpsO.below {w w' : World} {A : Option Addr} {len : Nat} (h : OpsO w A len) (k : Below w.heap.size w w') : OpsO w' A len :=
  ⟨h.1, fun i hi => by
    obtain ⟨b, off, es, kd, far, e, hb, hr, rest⟩ := h.2 i hi
    exact ⟨b, off, es, kd, far, e, Nat.lt_of_lt_of_le hb k.size, rdAt_below hr k hb, rest⟩⟩

/-- The answer to number n, with the number. -/
def fN (n : Int) : Value := .agg (mset 5 (.int .u32 n))
/-- The verdict on what was done. -/
def Vd (A : Int) (j : Nat) : Int := if (j : Int) + 1 ≤ A then 3 else 2
def Sts (A : Int) (D : Nat) : List Value := (List.range D).map fun j => Value.int .u8 (Vd A j)
/-- The verdicts, the first k of them told anew. -/
def Mid (A0 A : Int) (k D : Nat) : List Value := (List.range D).map fun j => Value.int .u8 (if j < k then Vd A j else Vd A0 j)

theorem mid_zero (A0 A : Int) (D : Nat) : Mid A0 A 0 D = Sts A0 D := by
  unfold Mid Sts
  refine List.map_congr_left fun j _ => ?_
  simp
theorem mid_all (A0 A : Int) (D : Nat) : Mid A0 A D D = Sts A D := by
  unfold Mid Sts
  refine List.map_congr_left fun j hj => ?_
  simp [List.mem_range.1 hj]
theorem mid_set (A0 A : Int) (k D : Nat) : (Mid A0 A k D).set k (.int .u8 (Vd A k)) = Mid A0 A (k + 1) D := by
  unfold Mid
  apply List.ext_getElem
  · simp
  · intro j h1 h2
    simp only [List.getElem_set, List.getElem_map, List.getElem_range]
    by_cases h : k = j
    · subst h; simp
    · rw [if_neg h]
      by_cases h3 : j < k
      · rw [if_pos h3, if_pos (by omega)]
      · rw [if_neg h3, if_neg (by omega)]
theorem mid_get (A0 A : Int) (k D : Nat) (h : k < D) : (Mid A0 A k D)[k]? = some (.int .u8 (Vd A0 k)) := by
  simp [Mid, h]
theorem sts_succ (A : Int) (D : Nat) (h : A ≤ D) : Sts A D ++ [.int .u8 2] = Sts A (D + 1) := by
  have : Vd A D = 2 := by unfold Vd; rw [if_neg (by omega)]
  simp [Sts, List.range_succ, this]

/-- The table and the verdicts: so many done, so many acknowledged; the verdicts of an acknowledgement A0, the first k of them told anew. -/
structure DoSt (w : World) (b r B : Nat) (D : Nat) (A A0 : Int) (k : Nat) (s : Value) (wr : World) : Prop where
  lo : 0 ≤ A0
  mid : A0 ≤ A
  hi : A ≤ D
  room : (D : Int) - A ≤ 16
  tab : TabAt wr b r D A (Ents fN A (D - A).toNat)
  own : wr.ownsRow B 72 1 s D (Mid A0 A k D)
  size : B ≤ wr.heap.size
  below : Below w.heap.size w wr

def DoRel (w : World) (b r B len : Nat) (s i : Value) (wr : World) : Prop := ∃ (k D : Nat) (A : Int), i = .int .i64 k ∧ k ≤ len ∧ k ≤ 100 ∧ D ≤ k ∧ DoSt w b r B D A A 0 s wr
def DoCut (w : World) (b r B k : Nat) (s : Value) (wr : World) : Prop := ∃ (D : Nat) (A A0 : Int), D ≤ k + 1 ∧ DoSt w b r B D A A0 0 s wr
def DoIn (w : World) (b r B D : Nat) (A A0 : Int) (s i : Value) (wr : World) : Prop := ∃ j : Nat, i = .int .i64 j ∧ j ≤ D ∧ DoSt w b r B D A A0 j s wr

theorem infoVd : (Try.prog.info? 72).map (fun i => (i.zero, i.size, i.bytes)) = some (some (.int .u8 0), 1, 1) := by kernel_rfl

/-- What a call that turns only the table's blocks leaves. -/
theorem DoSt.step {w wr w' : World} {b r B D : Nat} {A A0 : Int} {k : Nat} {s : Value} {S : Nat → Prop} (h : DoSt w b r B D A A0 k s wr) (hk : Kp S wr w') (hS : ∀ i, S i → w.heap.size ≤ i ∧ i < B) (hb : ¬ S b) (hr : ¬ S r) : DoSt w b r B D A A0 k s w' :=
  ⟨h.lo, h.mid, h.hi, h.room, h.tab.kp hk hb hr, own_kp h.own hk (fun g hg hSg => by have := (own_base' h.own g hg).1; have := (hS g hSg).2; omega), Nat.le_trans h.size hk.size, hk.below_of h.below h.below.size (fun i hi => (hS i hi).1)⟩
theorem DoSt.quiet {w wr w' : World} {b r B D : Nat} {A A0 : Int} {k : Nat} {s : Value} (h : DoSt w b r B D A A0 k s wr) (hk : Kp (fun _ => False) wr w') : DoSt w b r B D A A0 k s w' := h.step hk (fun _ h => h.elim) id id
theorem DoSt.alloc {w wr : World} {b r B D : Nat} {A A0 : Int} {k : Nat} {s : Value} (h : DoSt w b r B D A A0 k s wr) (o : Obj) : DoSt w b r B D A A0 k s (wr.alloc o) := h.quiet ((Kp.refl _ _).alloc o)

theorem own_form' {w : World} {base n size : Nat} {e : TypeId} {v : Value} {xs : List Value} (h : w.ownsRow base e size v n xs) : ∃ A c, v = .slice A n c := by
  rcases h.2 with ⟨rfl, rfl⟩ | ⟨g, cap, cur, rfl, _⟩
  · exact ⟨none, 0, rfl⟩
  · exact ⟨_, cap, rfl⟩

set_option maxRecDepth 100000 in
set_option maxHeartbeats 4000000 in
theorem dedupOnce_walk (v0 : Value) (w : World) (h0 : Came Try.prog w 51 v0) :
    Calls Try.prog 9 #[v0] w fun e w' => e = .returned (.bool true) ∧ Below w.heap.size w w' := by
  obtain ⟨A, len, cap, rfl, hs⟩ := OpsO.of_came h0
  have hm : len ≤ 9223372036854775807 := by have := hs.1; unfold maxLen at this; omega
  clear h0
  go_enter Try.func9, Try.ntmps9
  go_wp2_with fail
  refine (dedup_alive _).mono ?_
  rintro e w1 ⟨rfl, k1⟩
  go_wp2_with fail
  refine (tab_new _).mono ?_
  rintro e w2 ⟨rfl, hT, k2⟩
  have kk := (k1.trans k2).below
  have g1 := k1.size
  have hb1 := hT.1.lt
  have hb0 : w.heap.size ≤ w1.heap.size + 1 := by omega
  have hrb : w1.heap.size < w1.heap.size + 1 := by omega
  generalize w1.heap.size + 1 = b at *
  generalize w1.heap.size = r at *
  clear k1 k2
  have hst : DoSt w b r w2.heap.size 0 0 0 0 (.slice none 0 0) w2 := ⟨by omega, by omega, by omega, by omega, hT, World.ownsRow_nil _ _ _ _, Nat.le_refl _, kk⟩
  generalize w2.heap.size = B at *
  clear hT kk
  have hS : ∀ i, (i = b ∨ i = r) → w.heap.size ≤ i ∧ i < B := by omega
  go_wp2_with fail
  go_loopw [4, 5] (fun s i wr => DoRel w b r B len s i wr) (fun _ i _ => 100 - (intOf i).toNat)
  case atStart => exact ⟨0, 0, 0, rfl, by omega, by omega, by omega, hst⟩
  case round =>
    clear hst
    obtain ⟨k, D, Ak, rfl, hk1, hk2, hDk, hst⟩ := hrel
    by_cases hlt : k < len ∧ k < 100
    · obtain ⟨hl1, hl2⟩ := hlt
      obtain ⟨b0, off, es, kd, far, rfl, hb0', hrd, hes, h1, he0, he1, hk0, hk256, hf0, hf1⟩ := (hs.below hst.below).2 k hl1
      have hnew := Blk.new wr es 69
      have hst' := hst
      have hst := hst.alloc (.cells es 69)
      have he0 : es[0]'(by omega) = .int .u8 kd := by rw [Array.getElem?_eq_getElem (by omega)] at he0; simpa using he0
      have hfar : (wr.alloc (.cells es 69)).cell? ⟨wr.heap.size, 1, none⟩ = some (.int .u32 far) := (hnew.cell 1).trans he1
      have he1 : es[1]'(by omega) = .int .u32 far := by rw [Array.getElem?_eq_getElem (by omega)] at he1; simpa using he1
      have hd100 : decide ((k : Int) < 100) = true := by simp; omega
      go_upto_if 33 with fail
      go_cut [4] (fun s wx => DoCut w b r B k s wx)
      case first =>
        clear hrd hs hnew
        have hkd : kd % 2 = 0 ∨ kd % 2 = 1 := by omega
        rcases hkd with h | h
        · have e0 : (kd % 2 == 0) = true := by simp [h]
          clear h
          have hd1 : D ≤ 100 := by omega
          go_wp2_with fail
          refine (tab_done _ _ _ _ _ _ hst.tab).mono ?_
          rintro e w3 ⟨rfl, rfl⟩
          go_wp2_with fail
          by_cases hfull : (D : Int) - Ak < 16
          · refine (tab_keep _ _ _ _ _ _ _ _ hst.tab (by omega) (by omega) rfl (by rw [(Ents.keys _ _ _).len]; omega) (mset_size _ _)).mono ?_
            rintro e w4 ⟨rfl, hT4, k4⟩
            have hlo := hst.lo
            have hhi := hst.hi
            have hT4 : TabAt w4 b r ((D + 1 : Nat) : Int) Ak (Ents fN Ak (((D + 1 : Nat) : Int) - Ak).toNat) := by
              have := Ents.put fN Ak ((D : Int) - Ak).toNat
              rw [show Ak + ((((D : Int) - Ak).toNat : Nat) : Int) + 1 = (D : Int) + 1 by omega] at this
              rw [show (((D + 1 : Nat) : Int) - Ak).toNat = ((D : Int) - Ak).toNat + 1 by omega, ← this]
              exact hT4
            have hown4 : w4.ownsRow B 72 1 u4 D (Sts Ak D) := by
              have := own_kp hst.own k4 (fun g hg hSg => by have := (own_base' hst.own g hg).1; have := (hS g hSg).2; omega)
              rwa [mid_zero] at this
            have hb4 := k4.below_of hst.below hst.below.size (fun i hi => (hS i hi).1)
            have hz4 := k4.size
            have hsz := hst.size
            clear hst k4 hfar
            have ho1 : ∀ u ∈ (#[Value.int .u8 2] : Array Value).toList, u.oneCell' = true := by simp [Value.oneCell']
            go_wp2_with (at_builtin; refine wp_append1 (W := w4) B rfl (.tmp 43) (.tmp 44) 54 72 (.int .u8 0) 1 1 rfl Try.underlying54 infoVd rfl (by decide) _ D _ #[Value.int .u8 2] rfl rfl rfl ho1 hown4 (by omega) (by omega) (by omega) ?_)
            intro v1 w6 hown6 hg6 hat6
            have hk6 : Kp (fun g => B ≤ g) w4 w6 := Kp.of_grown hg6 (fun g hg => (own_base' hown4 g hg).1)
            have hfin : DoCut w b r B k v1 w6 := ⟨D + 1, Ak, Ak, by omega, hlo, by omega, by omega, by omega, hT4.kp hk6 (by show ¬ B ≤ b; omega) (by show ¬ B ≤ r; omega), by
              rw [mid_zero, ← sts_succ Ak D (by omega)]
              exact hown6, by have := hk6.size; omega, hk6.below_of hb4 (by omega) (by intro i hi; omega)⟩
            clear hown6 hg6 hat6 hk6 hT4 hown4 hb4
            go_wp2
            go_meet
            exact hfin
          · refine (tab_keep_full _ _ _ _ _ _ _ _ hst.tab (by omega) (by omega) rfl (by rw [(Ents.keys _ _ _).len]; omega)).mono ?_
            rintro e w4 ⟨rfl, rfl⟩
            have hfin : DoCut w b r B k u4 ((wr.alloc (.cells es 69)).alloc (.cells (mset 5 (.int .u32 ((D : Int) + 1))) 67)) := ⟨D, Ak, Ak, by omega, hst.alloc _⟩
            clear hst hfar
            go_wp2
            go_meet
            exact hfin
        · have e0 : (kd % 2 == 0) = false := by simp [h]
          have hf : 0 ≤ far % 20 ∧ far % 20 < 20 := by omega
          have htm : far.tmod 20 = far % 20 := Int.tmod_eq_emod_of_nonneg hf0
          have hlo := hst.lo
          have hhi := hst.hi
          have hrm := hst.room
          have hsz := hst.size
          have hgo : B ≤ wr.heap.size := by have := hst'.size; omega
          have hgne : ¬ (wr.heap.size = b ∨ wr.heap.size = r) := by omega
          have htd : TabAt (wr.alloc (.cells es 69)).drew b r D Ak (Ents fN Ak ((D : Int) - Ak).toNat) := hst.tab
          clear h
          by_cases hfd : far % 20 ≤ D
          · have hy : IntKind.u32.wrap ((D : Int) - far % 20) = (D : Int) - far % 20 := IntWalk.u32_in _ ⟨by omega, by omega⟩
            have hm0 : ∀ p ∈ Ents fN Ak ((D : Int) - Ak).toNat, Ak < p.1 := fun p hp => ((Ents.keys _ _ _).mem p hp).1
            have hack := tab_ack _ _ _ _ _ _ _ htd hlo (by omega) (show (D : Int) - far % 20 ≤ D by omega) (by omega) hm0
            have HA := Lib.hid hack
            clear hack hm0
            go_wp2_with fail
            go_region_held3 (fun w' => w'.cell? ⟨wr.heap.size, 1, none⟩ = some (.int .u32 far)) (first | exact hfar | exact d1 | go_keep)
              (first | (go_at_call 30; refine (tab_done _ _ _ _ _ _ htd).mono ?_; rintro e w' ⟨rfl, rfl⟩) | (go_at_call 32; refine HA.out.mono ?_; rintro e w4 ⟨rfl, hend⟩; have d1 : w4.cell? ⟨wr.heap.size, 1, none⟩ = some (.int .u32 far) := hend.cell hfar hgne))
            have hfin : DoCut w b r B k u4 w4 := by
              obtain ⟨a, ha, hT4, k4⟩ := hend
              have ha2 : Ak ≤ a ∧ a ≤ D := by split at ha <;> omega
              rw [Ents.kept _ _ _ _ ha2.1 (by omega), show (Ak + ((((D : Int) - Ak).toNat : Nat) : Int) - a) = (D : Int) - a by omega] at hT4
              refine ⟨D, a, Ak, by omega, hlo, ha2.1, ha2.2, by omega, hT4, ?_, ?_, ?_⟩
              · have := own_kp (w := (wr.alloc (.cells es 69)).drew) hst.own k4 (fun g hg hSg => by have := (own_base' hst.own g hg).1; have := (hS g hSg).2; omega)
                rwa [mid_zero] at this ⊢
              · have := k4.size
                have : (wr.alloc (.cells es 69)).heap.size ≤ w4.heap.size := this
                simp at this
                omega
              · exact k4.below_of (w := (wr.alloc (.cells es 69)).drew) hst.below.drew hst.below.size (fun i hi => (hS i hi).1)
            clear hy htm htd HA hend hst hfar d1
            go_wp2
            go_meet
            exact hfin
          · obtain ⟨n, hn, hgt⟩ : ∃ n, IntKind.u32.wrap ((D : Int) - far % 20) = n ∧ (D : Int) < n := ⟨_, rfl, by rw [IntKind.wrap_u32]; omega⟩
            have hack := tab_ack_arg _ _ _ _ _ _ _ htd hgt
            have HA := Lib.hid hack
            clear hack
            go_wp2_with fail
            go_region_held3 (fun w' => w'.cell? ⟨wr.heap.size, 1, none⟩ = some (.int .u32 far)) (first | exact hfar | go_keep)
              (first | (go_at_call 30; refine (tab_done _ _ _ _ _ _ htd).mono ?_; rintro e w' ⟨rfl, rfl⟩) | (go_at_call 32; refine HA.out.mono ?_; rintro e w4 ⟨rfl, rfl⟩))
            have hfin : DoCut w b r B k u4 (wr.alloc (.cells es 69)).drew := ⟨D, Ak, Ak, by omega, hst.quiet (Kp.refl _ _).drew⟩
            clear hn htm htd HA hst hfar
            go_wp2
            go_meet
            exact hfin
      case rest =>
        clear hrd hs hnew hst hfar he0 he1
        obtain ⟨D, A, A0, hD, hst⟩ := hcut
        obtain ⟨SA, sc, rfl⟩ := own_form' hst.own
        have hDm : D ≤ 101 := by omega
        have hle : ¬ (16 : Int) < ((Ents fN A ((D : Int) - A).toNat).length : Int) := by rw [(Ents.keys _ _ _).len]; have := hst.room; omega
        go_wp2_with fail
        refine (tab_len _ _ _ _ _ _ hst.tab).mono ?_
        rintro e w3 ⟨rfl, rfl⟩
        go_wp2_with fail
        generalize ((Ents fN A ((D : Int) - A).toNat).length : Int) = nl at *
        clear hle
        go_loopw [8] (fun i wr => DoIn w b r B D A A0 (.slice SA D sc) i wr) (fun i _ => 200 - (intOf i).toNat)
        case atStart => exact ⟨0, rfl, by omega, hst⟩
        case round =>
          clear hst
          obtain ⟨j, rfl, hj, hst⟩ := hrel
          by_cases hlj : j < D
          · obtain ⟨g, cp, hform, hgB, hgl⟩ := hst.own.form (by omega)
            simp only [Value.slice.injEq, true_and] at hform
            obtain ⟨rfl, rfl⟩ := hform
            have hown := hst.own
            have hcell := (hown.cellAt j (by omega)).trans (mid_get A0 A j D hlj)
            have hfz := hown.frozenAt j
            have hlo := hst.lo
            have hmd := hst.mid
            have hhi := hst.hi
            have hB := hst.size
            have fin : ∀ wx : World, Kp (fun _ => False) _ wx → DoIn w b r B D A A0 (.slice (some ⟨g, 0, none⟩) D sc) (.int .i64 ((j + 1 : Nat) : Int)) (wx.setCell ⟨g, j, none⟩ (.int .u8 (Vd A j))) := fun wx kx => by
              have hx := hst.quiet kx
              refine ⟨j + 1, rfl, by omega, hx.lo, hx.mid, hx.hi, hx.room, ⟨hx.tab.1.set_other (by show b ≠ g; omega) _, hx.tab.2.setCell _ _⟩, ?_, by simpa [World.setCell] using hx.size, hx.below.setCell (by show w.heap.size ≤ g; omega) _⟩
              have := (hx.own.stored j (.int .u8 (Vd A j))).1
              rwa [mid_set] at this
            have hjn : ((j + 1 : Nat) : Int) = (j : Int) + 1 := by omega
            rw [hjn] at fin
            by_cases hpast : (j : Int) + 1 ≤ A
            · have hv : Vd A j = 3 := if_pos hpast
              rw [hv] at fin
              by_cases hold : (j : Int) + 1 ≤ A0
              · have hv0 : Vd A0 j = 3 := if_pos hold
                rw [hv0] at hcell
                clear hv hv0
                go_wp2_with fail
                refine (tab_ask_past _ _ _ _ _ _ _ hst.tab hpast).mono ?_
                rintro e w4 ⟨rfl, k4⟩
                have hc4 := (k4.alloc (.cells zMsg 67)).cell0 hcell
                have hf4 : (w4.alloc (.cells zMsg 67)).frozen? ⟨g, j, none⟩ = false := ((hst.quiet (k4.alloc _)).own.frozenAt j)
                have hfin := fin _ (k4.alloc (.cells zMsg 67))
                clear hown hcell hfz fin hst k4
                go_wp2
                go_roundw
                case rel => exact hfin
                case measure => simp [intOf]; omega
              · have hv0 : Vd A0 j = 2 := if_neg hold
                rw [hv0] at hcell
                clear hv hv0
                go_wp2_with fail
                refine (tab_ask_past _ _ _ _ _ _ _ hst.tab hpast).mono ?_
                rintro e w4 ⟨rfl, k4⟩
                have hc4 := (k4.alloc (.cells zMsg 67)).cell0 hcell
                have hf4 : (w4.alloc (.cells zMsg 67)).frozen? ⟨g, j, none⟩ = false := ((hst.quiet (k4.alloc _)).own.frozenAt j)
                have hfin := fin _ (k4.alloc (.cells zMsg 67))
                clear hown hcell hfz fin hst k4
                go_wp2
                go_roundw
                case rel => exact hfin
                case measure => simp [intOf]; omega
            · have hv : Vd A j = 2 := if_neg hpast
              have hv0 : Vd A0 j = 2 := if_neg (by omega)
              rw [hv] at fin
              rw [hv0] at hcell
              clear hv hv0
              have hg : A < (j : Int) + 1 := by omega
              have hl := Ents.look fN A ((j : Int) + 1) ((D : Int) - A).toNat hg (by omega)
              have hjj : ((j : Int) + 1 != (j : Int) + 1) = false := by simp
              go_wp2_with fail
              refine (tab_ask_again _ _ _ _ _ _ _ hst.tab (mset 5 (.int .u32 ((j : Int) + 1))) (mset_size _ _) (mset_one _ _ _) hg (by omega) hl).mono ?_
              rintro e w4 ⟨rfl, k4⟩
              have hc4 := (k4.alloc (.cells (mset 5 (.int .u32 ((j : Int) + 1))) 67)).cell0 hcell
              have hf4 : (w4.alloc (.cells (mset 5 (.int .u32 ((j : Int) + 1))) 67)).frozen? ⟨g, j, none⟩ = false := ((hst.quiet (k4.alloc _)).own.frozenAt j)
              have hfin := fin _ (k4.alloc (.cells (mset 5 (.int .u32 ((j : Int) + 1))) 67))
              have hx5 := ((Blk.new w4 (mset 5 (.int .u32 ((j : Int) + 1))) 67).cell 5).trans (mset5 _)
              clear hown hcell hfz fin hst k4 hl
              go_wp2
              go_roundw
              case rel => exact hfin
              case measure => simp [intOf]; omega
          · obtain rfl : j = D := by omega
            have hnj : decide (j < j) = false := by simp
            go_wp2_with fail
            refine (tab_ask_fresh _ _ _ _ _ _ _ hst.tab (by have := hst.hi; omega) rfl (by omega) (by omega)).mono ?_
            rintro e w4 ⟨rfl, k4⟩
            have hfin : DoSt w b r B j A A 0 (.slice SA j sc) (w4.alloc (.cells zMsg 67)) := by
              have hx := hst.quiet (k4.alloc (.cells zMsg 67))
              refine ⟨by have := hx.lo; have := hx.mid; omega, by omega, hx.hi, hx.room, hx.tab, ?_, hx.size, hx.below⟩
              have := hx.own
              rwa [mid_all, ← mid_zero A A] at this
            clear hst k4
            go_wp2
            go_roundw
            case rel => exact ⟨k + 1, j, A, by go_num, by omega, by omega, by omega, hfin⟩
            case measure => simp [intOf]; omega
    · have hcase : (decide (k < len) = false) ∨ ((decide (k < len) = true) ∧ ¬ (k : Int) < 100) := by
        by_cases h : k < len
        · exact .inr ⟨by simpa using h, by omega⟩
        · exact .inl (by simpa using h)
      have hbw := hst.below
      clear hlt hst
      rcases hcase with hl | ⟨hl, hl2⟩
      all_goals
        go_wp2_with fail
        go_ret
        exact ⟨rfl, hbw⟩
end Go.Proofs.Ytnjkoapkgoiljaa

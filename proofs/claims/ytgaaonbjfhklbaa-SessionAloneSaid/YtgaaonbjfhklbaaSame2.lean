/- The reference's Same of items, changes, hits and messages that hold the same: true. -/
import Derived.Test.YtgaaonbjfhklbaaSame
namespace Go.Proofs.Ytgaaonbjfhklbaa
set_option linter.unusedVariables false
set_option linter.unusedSimpArgs false
open Go.RowKit

theorem rdAt_row {w : World} {b off i c : Nat} {es : List Value} (hl : es.length = c) (hc : ∀ j, j < c → w.cell? ⟨b, off + i * c + j, none⟩ = es[j]?) : rdAt w ⟨b, off + i * c, none⟩ c = some es.toArray := by
  subst hl
  refine rdAt_of fun j hj => ?_
  rw [add_form]
  exact hc j hj

theorem rdAt_keeps {w w' : World} {a : Addr} {n : Nat} {es : Array Value} (h : rdAt w a n = some es) (k : Keeps w w') : rdAt w' a n = some es := by
  obtain ⟨hl, hc⟩ := rdAt_cells h
  have := rdAt_of (w := w') (a := a) (es := es.toList) fun j hj => by
    have hj' : j < es.size := by simpa using hj
    have h1 := hc j (by omega)
    rw [Array.getElem?_eq_getElem hj'] at h1
    rw [k _ _ h1]
    simp [hj']
  simpa [hl] using this

theorem load171 (ρ : Operand → Value) (dst : Option Tmp) (x : Operand) (ty : TypeId) (pos : String) (after : Array Edge) (gd : Option (Nat × Bool)) (w : World)
    (hp : isPtrA (ρ x) = true) (h : (rdAt w (adrOf (ρ x)) 2).isSome = true) : (execOp ρ ⟨dst, .load 171 x, ty, pos, after, gd⟩).run Try.prog w = .ok (.value (.agg ((rdAt w (adrOf (ρ x)) 2).getD #[]))) w :=
  ex_load_at (P := Try.prog) Try.underlying171 rfl (by kernel_rfl) ρ dst x ty pos after gd w hp h

attribute [local go_sem ↓] load171
attribute [local go_sem] isPtrA_ptr adrOf_ptr

theorem hits_same (v v' : Value) (l : List HitC) (w : World) (h : Hits w v l) (h' : Hits w v' l) :
    Calls Try.prog 72 #[v, v'] w fun e w' => e = .returned (.bool true) ∧ Kp (fun _ => False) w w' := by
  obtain ⟨A, cap, rfl, hlc, hcm, hrow⟩ := h
  obtain ⟨A', cap', rfl, _, _, hrow'⟩ := h'
  have hlm : l.length ≤ 9223372036854775807 := by simp only [maxLen] at hcm; omega
  clear hlc hcm
  have hnn : ((l.length : Int) != (l.length : Int)) = false := by simp
  have kk := Kp.refl (fun _ => False) w
  go_enter Try.func72, Try.ntmps72
  go_wp2_with fail
  go_loopw [5] (fun i wr => SameRel w l.length i wr) (fun i _ => l.length - (intOf i).toNat)
  case atStart => exact ⟨0, by omega, rfl, kk⟩
  case round =>
    clear kk hnn
    obtain ⟨k, hk, rfl, kk⟩ := hrel
    by_cases hlt : k < l.length
    · obtain ⟨b, off, es, rfl, hl2, hc, hr⟩ := hrow k hlt
      obtain ⟨b', off', es', rfl, hl2', hc', hr'⟩ := hrow' k hlt
      unfold HitR at hr hr'
      subst hr
      subst hr'
      have d : rdAt w ⟨b, off + k * 2, none⟩ 2 = some _ := rdAt_row hl2 hc
      have d' : rdAt w ⟨b', off' + k * 2, none⟩ 2 = some _ := rdAt_row hl2' hc'
      replace d : rdAt wr ⟨b, off + k * 2, none⟩ 2 = some _ := rdAt_keeps d (Keeps.kp kk)
      replace d' : rdAt wr ⟨b', off' + k * 2, none⟩ 2 = some _ := rdAt_keeps d' (Keeps.kp kk)
      clear hc hc' hrow hrow'
      generalize l[k] = x at *
      go_wp2_with fail
      go_region_held3 (fun w' => rdAt w' ⟨b, off + k * 2, none⟩ 2 = some #[.int .i64 x.dist, .int .u32 x.id] ∧ rdAt w' ⟨b', off' + k * 2, none⟩ 2 = some #[.int .i64 x.dist, .int .u32 x.id]) (first | exact ⟨d, d'⟩ | go_keep) (fail)
      have kk := kk.drew
      go_wp2_with fail
      go_roundw
      case rel => exact ⟨k + 1, by omega, by go_num, kk⟩
      case measure => simp [intOf]; omega
    · go_wp2_with fail
      go_ret
      exact ⟨rfl, kk⟩

theorem ItemR.kk {w w' : World} {es : List Value} {x : ItemC} (h : ItemR w es x) (k : Keeps w w') : ItemR w' es x := ItemR.keeps k es x h

theorem item_same (es es' : List Value) (x : ItemC) (w : World) (h : ItemR w es x) (h' : ItemR w es' x) :
    Calls Try.prog 86 #[.agg es.toArray, .agg es'.toArray] w fun e w' => e = .returned (.bool true) ∧ Kp (fun _ => False) w w' := by
  obtain ⟨v, t, rfl, hv, ht⟩ := h
  obtain ⟨v', t', rfl, hv', ht'⟩ := h'
  have K := (Keeps.alloc w (.cells #[.int .u32 x.id, v, t] 77)).trans (Keeps.alloc _ (.cells #[.int .u32 x.id, v', t'] 77))
  have kk := ((Kp.refl (fun _ => False) w).alloc (.cells #[.int .u32 x.id, v, t] 77)).alloc (.cells #[.int .u32 x.id, v', t'] 77)
  replace hv := hv.keeps K
  replace hv' := hv'.keeps K
  replace ht := ht.keeps K
  replace ht' := ht'.keeps K
  clear K
  have hnn : (x.id == x.id) = true := by simp
  go_enter Try.func86, Try.ntmps86
  go_wp2_with fail
  refine (ints_same _ _ _ _ hv hv').mono ?_
  rintro e w1 ⟨rfl, k1⟩
  have c2 : w1.cell? ⟨w.heap.size, 2, none⟩ = some t := k1.cell0 ((((Blk.new w #[.int .u32 x.id, v, t] 77).alloc _).cell 2).trans rfl)
  have c3 : w1.cell? ⟨w.heap.size + 1, 2, none⟩ = some t' := k1.cell0 (((by simpa using Blk.new (w.alloc (.cells #[.int .u32 x.id, v, t] 77)) #[.int .u32 x.id, v', t'] 77 : Blk _ (w.heap.size + 1) _ _).cell 2).trans rfl)
  replace ht := ht.keeps (Keeps.kp k1)
  replace ht' := ht'.keeps (Keeps.kp k1)
  have kk := kk.trans k1
  clear hv hv' k1
  go_wp2_with fail
  refine (strs_same _ _ _ _ ht ht').mono ?_
  rintro e w2 ⟨rfl, k2⟩
  have kk := kk.trans k2
  clear ht ht' k2 c2 c3
  go_wp2_with fail
  go_ret
  exact ⟨rfl, kk⟩

theorem load77 (ρ : Operand → Value) (dst : Option Tmp) (x : Operand) (ty : TypeId) (pos : String) (after : Array Edge) (gd : Option (Nat × Bool)) (w : World)
    (hp : isPtrA (ρ x) = true) (h : (rdAt w (adrOf (ρ x)) 3).isSome = true) : (execOp ρ ⟨dst, .load 77 x, ty, pos, after, gd⟩).run Try.prog w = .ok (.value (.agg ((rdAt w (adrOf (ρ x)) 3).getD #[]))) w :=
  ex_load_at (P := Try.prog) Try.underlying77 rfl (by kernel_rfl) ρ dst x ty pos after gd w hp h
attribute [local go_sem ↓] load77

theorem items_same (v v' : Value) (l : List ItemC) (w : World) (h : Items w v l) (h' : Items w v' l) :
    Calls Try.prog 71 #[v, v'] w fun e w' => e = .returned (.bool true) ∧ Kp (fun _ => False) w w' := by
  obtain ⟨A, cap, rfl, hlc, hcm, hrow⟩ := h
  obtain ⟨A', cap', rfl, _, _, hrow'⟩ := h'
  have hlm : l.length ≤ 9223372036854775807 := by simp only [maxLen] at hcm; omega
  clear hlc hcm
  have hnn : ((l.length : Int) != (l.length : Int)) = false := by simp
  have kk := Kp.refl (fun _ => False) w
  go_enter Try.func71, Try.ntmps71
  go_wp2_with fail
  go_loopw [5] (fun i wr => SameRel w l.length i wr) (fun i _ => l.length - (intOf i).toNat)
  case atStart => exact ⟨0, by omega, rfl, kk⟩
  case round =>
    clear kk hnn
    obtain ⟨k, hk, rfl, kk⟩ := hrel
    by_cases hlt : k < l.length
    · obtain ⟨b, off, es, rfl, hl2, hc, hr⟩ := hrow k hlt
      obtain ⟨b', off', es', rfl, hl2', hc', hr'⟩ := hrow' k hlt
      have d : rdAt wr ⟨b, off + k * 3, none⟩ 3 = some es.toArray := rdAt_keeps (rdAt_row hl2 hc) (Keeps.kp kk)
      have d' : rdAt wr ⟨b', off' + k * 3, none⟩ 3 = some es'.toArray := rdAt_keeps (rdAt_row hl2' hc') (Keeps.kp kk)
      have i1 : ItemR wr.drew es l[k] := (hr.kk (Keeps.kp kk)).kk (Keeps.drew wr)
      have i2 : ItemR wr.drew es' l[k] := (hr'.kk (Keeps.kp kk)).kk (Keeps.drew wr)
      clear hc hc' hrow hrow' hr hr' hl2 hl2'
      generalize l[k] = x at *
      go_wp2_with fail
      go_region_held3 (fun w' => rdAt w' ⟨b, off + k * 3, none⟩ 3 = some es.toArray ∧ rdAt w' ⟨b', off' + k * 3, none⟩ 3 = some es'.toArray) (first | exact ⟨d, d'⟩ | exact ⟨d3, d3'⟩ | go_keep)
        ((go_at_call 86; refine (item_same _ _ _ _ i1 i2).mono ?_; rintro e w3 ⟨rfl, k3⟩; have d3 := rdAt_keeps d ((Keeps.drew wr).trans (Keeps.kp k3)); have d3' := rdAt_keeps d' ((Keeps.drew wr).trans (Keeps.kp k3))))
      have kk := kk.drew.trans k3
      clear d d' d3 d3' i1 i2 k3
      go_wp2_with fail
      go_roundw
      case rel => exact ⟨k + 1, by omega, by go_num, kk⟩
      case measure => simp [intOf]; omega
    · go_wp2_with fail
      go_ret
      exact ⟨rfl, kk⟩

theorem rdAt_row1 {w : World} {b off i c : Nat} {e0 : Value} {es : List Value} (hl : (e0 :: es).length = c) (hc : ∀ j, j < c → w.cell? ⟨b, off + i * c + j, none⟩ = (e0 :: es)[j]?) : rdAt w ⟨b, off + i * c + 1, none⟩ es.length = some es.toArray := by
  subst hl
  refine rdAt_of fun j hj => ?_
  rw [add_form]
  have := hc (j + 1) (by simp; omega)
  rw [List.getElem?_cons_succ] at this
  rw [show off + i * (e0 :: es).length + 1 + j = off + i * (e0 :: es).length + (j + 1) by omega]
  exact this

theorem changes_same (v v' : Value) (l : List ChangeC) (w : World) (h : Changes w v l) (h' : Changes w v' l) :
    Calls Try.prog 68 #[v, v'] w fun e w' => e = .returned (.bool true) ∧ Kp (fun _ => False) w w' := by
  obtain ⟨A, cap, rfl, hlc, hcm, hrow⟩ := h
  obtain ⟨A', cap', rfl, _, _, hrow'⟩ := h'
  have hlm : l.length ≤ 9223372036854775807 := by simp only [maxLen] at hcm; omega
  clear hlc hcm
  have hnn : ((l.length : Int) != (l.length : Int)) = false := by simp
  have kk := Kp.refl (fun _ => False) w
  go_enter Try.func68, Try.ntmps68
  go_wp2_with fail
  go_loopw [5] (fun i wr => SameRel w l.length i wr) (fun i _ => l.length - (intOf i).toNat)
  case atStart => exact ⟨0, by omega, rfl, kk⟩
  case round =>
    clear kk hnn
    obtain ⟨k, hk, rfl, kk⟩ := hrel
    by_cases hlt : k < l.length
    · obtain ⟨b, off, es, rfl, hl2, hc, v, t, rfl, hr⟩ := hrow k hlt
      obtain ⟨b', off', es', rfl, hl2', hc', v', t', rfl, hr'⟩ := hrow' k hlt
      have d : rdAt wr ⟨b, off + k * 4 + 1, none⟩ 3 = some #[.int .u32 l[k].item.id, v, t] := rdAt_keeps (rdAt_row1 hl2 hc) (Keeps.kp kk)
      have d' : rdAt wr ⟨b', off' + k * 4 + 1, none⟩ 3 = some #[.int .u32 l[k].item.id, v', t'] := rdAt_keeps (rdAt_row1 hl2' hc') (Keeps.kp kk)
      have c : wr.cell? ⟨b, off + k * 4, none⟩ = some (.bool l[k].gone) := kk.cell0 ((hc 0 (by omega)).trans rfl)
      have c' : wr.cell? ⟨b', off' + k * 4, none⟩ = some (.bool l[k].gone) := kk.cell0 ((hc' 0 (by omega)).trans rfl)
      have i1 : ItemR wr.drew [.int .u32 l[k].item.id, v, t] l[k].item := ItemR.kk (⟨v, t, rfl, hr⟩ : ItemR w _ _) ((Keeps.kp kk).trans (Keeps.drew wr))
      have i2 : ItemR wr.drew [.int .u32 l[k].item.id, v', t'] l[k].item := ItemR.kk (⟨v', t', rfl, hr'⟩ : ItemR w _ _) ((Keeps.kp kk).trans (Keeps.drew wr))
      clear hc hc' hrow hrow' hr hr' hl2 hl2'
      generalize l[k].gone = g at *
      generalize l[k].item = x at *
      have hgg : (g != g) = false := by simp
      go_wp2_with fail
      go_region_held3 (fun w' => rdAt w' ⟨b, off + k * 4 + 1, none⟩ 3 = some #[.int .u32 x.id, v, t] ∧ rdAt w' ⟨b', off' + k * 4 + 1, none⟩ 3 = some #[.int .u32 x.id, v', t'] ∧ w'.cell? ⟨b, off + k * 4, none⟩ = some (.bool g) ∧ w'.cell? ⟨b', off' + k * 4, none⟩ = some (.bool g)) (first | exact ⟨d, d', c, c'⟩ | exact ⟨d3, d3', c3, c3'⟩ | go_keep)
        ((go_at_call 86; refine (item_same _ _ _ _ i1 i2).mono ?_; rintro e w3 ⟨rfl, k3⟩; have d3 := rdAt_keeps d ((Keeps.drew wr).trans (Keeps.kp k3)); have d3' := rdAt_keeps d' ((Keeps.drew wr).trans (Keeps.kp k3)); have c3 := k3.cell0 c; have c3' := k3.cell0 c'))
      have kk := kk.drew.trans k3
      clear d d' d3 d3' i1 i2 k3 c c' c3 c3'
      go_wp2_with fail
      go_roundw
      case rel => exact ⟨k + 1, by omega, by go_num, kk⟩
      case measure => simp [intOf]; omega
    · go_wp2_with fail
      go_ret
      exact ⟨rfl, kk⟩
end Go.Proofs.Ytgaaonbjfhklbaa

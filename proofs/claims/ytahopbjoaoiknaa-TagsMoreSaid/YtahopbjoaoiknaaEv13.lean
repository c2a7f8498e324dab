/- An evaluator over named blocks: a region in whatever order. Nothing of the program stands here. -/
import Derived.Test.YtahopbjoaoiknaaEv12
namespace Go.Proofs.Ytahopbjoaoiknaa
set_option linter.unusedVariables false
set_option linter.unusedSimpArgs false
open Go.RowKit

section
variable {P : Program} {G : Gd} {X : ExtT} {call : CallF}

theorem evDrawn_seq {nt : Nat} {ops : Array Oper} : ∀ (todo : List Oper) (tm tm' : Tr Value) (s s' : St) (logs : List (List Nat × List Nat)), evDrawn P X call nt ops todo tm s = some (tm', s', logs) →
    ∃ (tms : Nat → Tr Value) (ss : Nat → St), tms 0 = tm ∧ ss 0 = s ∧ tms todo.length = tm' ∧ ss todo.length = s' ∧ logs.length = todo.length ∧
      ∀ (j : Nat) (o : Oper), todo[j]? = some o → ∃ s1, evOp1 P X call nt ops o (tms j) { ss j with rd := [], wr := [] } = some (tms (j + 1), s1) ∧ logs[j]? = some (s1.rd, s1.wr) ∧ ss (j + 1) = { s1 with rd := s1.rd ++ (ss j).rd, wr := s1.wr ++ (ss j).wr }
  | [], tm, tm', s, s', logs, h => by
    simp only [evDrawn, Option.some.injEq, Prod.mk.injEq] at h
    obtain ⟨rfl, rfl, rfl⟩ := h
    exact ⟨fun _ => tm, fun _ => s, rfl, rfl, rfl, rfl, rfl, fun j o h => by simp at h⟩
  | o :: rest, tm, tm', s, s', logs, h => by
    simp only [evDrawn] at h
    split at h
    · cases h
    rename_i tm1 s1 h1
    split at h
    · cases h
    rename_i tm2 s2 l h2
    simp only [Option.some.injEq, Prod.mk.injEq] at h
    obtain ⟨rfl, rfl, rfl⟩ := h
    obtain ⟨tms, ss, g1, g2, g3, g4, g5, g6⟩ := evDrawn_seq rest _ _ _ _ _ h2
    refine ⟨fun j => match j with | 0 => tm | j + 1 => tms j, fun j => match j with | 0 => s | j + 1 => ss j, rfl, rfl, g3, g4, by simp [g5], fun j o' hj => ?_⟩
    cases j with
    | zero =>
      simp at hj
      subst hj
      exact ⟨s1, by simpa [g1] using h1, by simp, g2⟩
    | succ j => exact g6 j o' (by simpa using hj)

theorem disj_spec {l m : List Nat} (h : disj l m = true) {x : Nat} (hl : x ∈ l) (hm : x ∈ m) : False := by
  have := List.all_eq_true.1 h x hl
  simp only [Bool.not_eq_true', List.any_eq_false] at this
  exact this x hm (by simp)

theorem ARun.of_logs {s s1 s2 : St} (h : ARun { s with rd := [], wr := [] } s1) (e : s2 = { s1 with rd := s1.rd ++ s.rd, wr := s1.wr ++ s.wr }) : ARun s s2 := by
  subst e
  exact ⟨fun id hn => h.frame id (fun hm => hn (List.mem_append_left _ hm)), h.keep, h.alive, h.dom, h.even, fun id hi => List.mem_append_right _ hi, fun id hi => List.mem_append_right _ hi, h.ob⟩

/-- A region in whatever order, out of what each of its operations does. -/
theorem drawn_ok {nt : Nat} {ops : Array Oper} {tm tm' : Tr Value} {s s' : St} {logs : List (List Nat × List Nat)} {tms : Nat → Tr Value} {ss : Nat → St} (g1 : tms 0 = tm) (g2 : ss 0 = s) (g3 : tms ops.size = tm') (g4 : ss ops.size = s') (g5 : logs.length = ops.size)
    (hop : ∀ j o, ops[j]? = some o → ∃ s1, Op1S P G nt ops o (tms j) { ss j with rd := [], wr := [] } (tms (j + 1)) s1 ∧ logs[j]? = some (s1.rd, s1.wr) ∧ ss (j + 1) = { s1 with rd := s1.rd ++ (ss j).rd, wr := s1.wr ++ (ss j).wr })
    (hst : staticOk ops = true) (hlg : logsOk ops logs = true) :
    ARun s s' ∧ ∀ (F : Nat → Prop) (R0 : Ren) (w0 : World) (a0 : Act), (∀ id ∈ s'.rd, F id) → (∀ id ∈ s'.wr, F id) → Sat P G F R0 s.h w0 → (∀ R', R0.le R' → ∀ q ∈ s'.ob, q R') → ActR R0 nt tm a0 →
      ∀ Q : Exit → Act → World → Prop, (∀ R' a' w', ActR R' nt tm' a' → Sat P G F R' s'.h w' → Step R0 w0 s.h R' w' s'.wr → Q .normal a' w') → wpAny P .any ops Q ops.size (Array.replicate ops.size false) a0 w0 := by
  have hn : ops.toList.length = ops.size := by simp
  unfold staticOk at hst
  rw [Bool.and_eq_true] at hst
  obtain ⟨hed, hap⟩ := hst
  have hmlen : (masksFrom [] ops.toList).length = ops.size := by
    obtain ⟨t, h1, h2, _⟩ := masksFrom_pre ops.toList []
    simp only [List.nil_append] at h1
    rw [h1, h2, hn]
  have hops : ∀ j, j < ops.size → ∃ o, ops[j]? = some o ∧ ops.toList[j]? = some o := fun j hj => ⟨ops[j], by simp [hj], by simp [hj]⟩
  have hmask : ∀ j, j < ops.size → ∃ m, (masksFrom [] ops.toList)[j]? = some m := fun j hj => ⟨(masksFrom [] ops.toList)[j], by simp [hmlen, hj]⟩
  have hone : ∀ j, j < ops.size → ARun (ss j) (ss (j + 1)) := by
    intro j hj
    obtain ⟨o, ho, _⟩ := hops j hj
    obtain ⟨s1, ⟨k1, _⟩, _, k3⟩ := hop j o ho
    exact k1.of_logs k3
  have hrun : ∀ d j, j + d ≤ ops.size → ARun (ss j) (ss (j + d)) := by
    intro d
    induction d with
    | zero => exact fun j _ => ARun.refl _
    | succ d ih => exact fun j hj => (ih j (by omega)).trans (hone (j + d) (by omega))
  have hto : ∀ j, j ≤ ops.size → ARun (ss j) s' := fun j hj => by
    have := hrun (ops.size - j) j (by omega)
    rwa [show j + (ops.size - j) = ops.size by omega, g4] at this
  have hfrom : ∀ j, j ≤ ops.size → ARun s (ss j) := fun j hj => by
    have := hrun j 0 (by omega)
    rwa [Nat.zero_add, g2] at this
  refine ⟨by rw [← g2]; exact hto 0 (by omega), fun F R0 w0 a0 hrd hwr hS0 hob ha0 Q hQ => ?_⟩
  -- who writes, who reads
  let Tt : Nat → Nat → Value := fun j t => ((tms j).get t).getD undef
  let Th : Nat → Nat → Option AObj := fun j id => (ss j).h.get id
  let Wt : Nat → Nat → Prop := fun j t => ∃ o, ops[j]? = some o ∧ o.dst = some t
  let Ft : Nat → Nat → Prop := fun j t => ∃ o, ops[j]? = some o ∧ (t ∈ o.looksAt ops ∨ o.dst = some t)
  let Wh : Nat → Nat → Prop := fun j id => ∃ lg, logs[j]? = some lg ∧ id ∈ lg.2
  let Fh : Nat → Nat → Prop := fun j id => ∃ lg, logs[j]? = some lg ∧ (id ∈ lg.1 ∨ id ∈ lg.2)
  let ord : Nat → Nat → Prop := fun i j => ∃ m, (masksFrom [] ops.toList)[j]? = some m ∧ m.testBit i = true
  have hct : Conf ops.size Tt Wt Ft ord := by
    refine ⟨fun k t hk hw => ?_, fun k t ⟨o, h1, h2⟩ => ⟨o, h1, .inr h2⟩, fun i j t hij hj hh => ?_⟩
    · obtain ⟨o, ho, _⟩ := hops k hk
      obtain ⟨s1, ⟨_, _, v, k1, _⟩, _, _⟩ := hop k o ho
      simp only [Tt, k1]
      cases hd : o.dst with
      | none => rfl
      | some d =>
        have hne : d ≠ t := by rintro rfl; exact hw ⟨o, ho, hd⟩
        simp [putT, Tr.get_set, hne]
    · obtain ⟨oi, hoi, hoi'⟩ := hops i (by omega)
      obtain ⟨oj, hoj, hoj'⟩ := hops j hj
      obtain ⟨mi, hmi⟩ := hmask i (by omega)
      obtain ⟨mj, hmj⟩ := hmask j hj
      have := (pairsOk_spec _ _ _ hap).2 i j mi mj oi oj hij (by rw [List.getElem?_zip_eq_some]; exact ⟨hmi, hoi'⟩) (by rw [List.getElem?_zip_eq_some]; exact ⟨hmj, hoj'⟩)
      rw [Nat.zero_add] at this
      rcases this with hb | hb
      · exact ⟨mj, hmj, hb⟩
      · obtain ⟨q1, q2, q3⟩ := Oper.apart_spec hb
        rcases hh with ⟨⟨o, h1, h2⟩, ⟨o', h3, h4⟩⟩ | ⟨⟨o, h1, h2⟩, ⟨o', h3, h4⟩⟩
        · rw [hoi] at h1; cases h1
          rw [hoj] at h3; cases h3
          rcases h4 with h4 | h4
          · exact absurd h4 (q1 t h2)
          · exact absurd h4 (q2 t h2)
        · rw [hoi] at h1; cases h1
          rw [hoj] at h3; cases h3
          rcases h2 with h2 | h2
          · exact absurd h2 (q3 t h4)
          · exact absurd h4 (q2 t h2)
  have hch : Conf ops.size Th Wh Fh ord := by
    refine ⟨fun k id hk hw => ?_, fun k id ⟨lg, h1, h2⟩ => ⟨lg, h1, .inr h2⟩, fun i j id hij hj hh => ?_⟩
    · obtain ⟨o, ho, _⟩ := hops k hk
      obtain ⟨s1, ⟨k1, _⟩, k2, k3⟩ := hop k o ho
      simp only [Th, k3]
      exact k1.frame id (fun hm => hw ⟨_, k2, hm⟩)
    · have hli : ∃ lg, logs[i]? = some lg := ⟨logs[i], by simp [g5, show i < ops.size by omega]⟩
      have hlj : ∃ lg, logs[j]? = some lg := ⟨logs[j], by simp [g5, hj]⟩
      obtain ⟨li, hli⟩ := hli
      obtain ⟨lj, hlj⟩ := hlj
      unfold logsOk at hlg
      rw [Bool.or_eq_true] at hlg
      rcases hlg with hq | hp
      · have hnone : ∀ (k : Nat) (lg : List Nat × List Nat), logs[k]? = some lg → ∀ x, x ∉ lg.2 := by
          intro k lg hk x hx
          have := List.all_eq_true.1 hq lg (List.mem_of_getElem? hk)
          rw [List.isEmpty_iff] at this
          rw [this] at hx
          cases hx
        rcases hh with ⟨⟨lg, h1, h2⟩, _⟩ | ⟨_, ⟨lg, h1, h2⟩⟩
        · exact absurd h2 (hnone _ _ h1 _)
        · exact absurd h2 (hnone _ _ h1 _)
      · obtain ⟨mi, hmi⟩ := hmask i (by omega)
        obtain ⟨mj, hmj⟩ := hmask j hj
        have := (pairsOk_spec _ _ _ hp).2 i j mi mj li lj hij (by rw [List.getElem?_zip_eq_some]; exact ⟨hmi, hli⟩) (by rw [List.getElem?_zip_eq_some]; exact ⟨hmj, hlj⟩)
        rw [Nat.zero_add] at this
        rcases this with hb | hb
        · exact ⟨mj, hmj, hb⟩
        · unfold logApart at hb
          simp only [Bool.and_eq_true] at hb
          obtain ⟨⟨d1, d2⟩, d3⟩ := hb
          rcases hh with ⟨⟨lg, h1, h2⟩, ⟨lg', h3, h4⟩⟩ | ⟨⟨lg, h1, h2⟩, ⟨lg', h3, h4⟩⟩
          · rw [hli] at h1; cases h1
            rw [hlj] at h3; cases h3
            rcases h4 with h4 | h4
            · exact (disj_spec d1 h2 h4).elim
            · exact (disj_spec d2 h2 h4).elim
          · rw [hli] at h1; cases h1
            rw [hlj] at h3; cases h3
            rcases h2 with h2 | h2
            · exact (disj_spec d3 h2 h4).elim
            · exact (disj_spec d2 h2 h4).elim
  -- what holds while some are done
  have main : ∀ (fuel : Nat) (listed : Array Bool) (R : Ren) (a : Act) (w : World),
      (List.range ops.size).countP (fun i => !(listed.getD i false)) = fuel → listed.size = ops.size →
      (∀ j o, listed.getD j false = true → ops[j]? = some o → ∀ e ∈ o.after.toList, Region.binds .any e = true → listed.getD e.on false = true) →
      a.tmps.size = nt → a.defers = [] →
      (∀ t, VR R (CS Tt Wt (fun i => listed.getD i false = true) ops.size t) (a.tmps.getD t undef)) →
      (∀ id o, F id → CS Th Wh (fun i => listed.getD i false = true) ops.size id = some o → SatObj P R w id o) →
      (∀ id l, F id → R id = some l → (CS Th Wh (fun i => listed.getD i false = true) ops.size id).isSome = true ∨ id % 2 = 1) →
      (∀ id id' o o' l l', F id → F id' → id ≠ id' → CS Th Wh (fun i => listed.getD i false = true) ops.size id = some o → CS Th Wh (fun i => listed.getD i false = true) ops.size id' = some o' → o.live = true → o'.live = true → (o.own = true ∨ o'.own = true) → R id = some l → R id' = some l' → l.blk ≠ l'.blk) →
      Below G.B G.W w → (∀ id o l, F id → CS Th Wh (fun i => listed.getD i false = true) ops.size id = some o → o.own = true → R id = some l → G.B ≤ l.blk) → G.B ≤ w.heap.size →
      Step R0 w0 s.h R w s'.wr → wpAny P .any ops Q fuel listed a w := by
    intro fuel
    induction fuel with
    | zero =>
      intro listed R a w hcnt hlsz hcl hasz hadf htv hobj hdom hinj hbas hlow hsiz hstp
      have hall : ∀ i, i < ops.size → listed.getD i false = true := by
        intro i hi
        rw [List.countP_eq_zero] at hcnt
        simpa using hcnt i (by simpa using hi)
      refine ⟨?_, hQ R a w ⟨hasz, hadf, fun t => ?_⟩ ⟨fun id o hf hg => ?_, fun id l hf hl => ?_, ?_, hbas, fun id o l hf hg => hlow id o l hf (by rw [CS_all hch ops.size id (Nat.le_refl _) hall]; simpa [Th, g4] using hg), hsiz⟩ hstp⟩
      · unfold Region.ready
        rw [List.filter_eq_nil_iff]
        intro i hi
        have := hall i (by simpa using hi)
        have hlt : i < listed.size := by rw [hlsz]; simpa using hi
        simp [Array.getD, hlt] at this ⊢
        simp [this]
      · have := htv t
        rw [CS_all hct ops.size t (Nat.le_refl _) hall] at this
        simpa [Tt, g3] using this
      · refine hobj id o hf ?_
        rw [CS_all hch ops.size id (Nat.le_refl _) hall]
        simpa [Th, g4] using hg
      · have := hdom id l hf hl
        rw [CS_all hch ops.size id (Nat.le_refl _) hall] at this
        simpa [Th, g4] using this
      · intro id id' o o' l l' f1 f2 hne q1 q2
        refine hinj id id' o o' l l' f1 f2 hne ?_ ?_
        · rw [CS_all hch ops.size id (Nat.le_refl _) hall]
          simpa [Th, g4] using q1
        · rw [CS_all hch ops.size id' (Nat.le_refl _) hall]
          simpa [Th, g4] using q2
    | succ fuel ih =>
      intro listed R a w hcnt hlsz hcl hasz hadf htv hobj hdom hinj hbas hlow hsiz hstp
      refine ⟨fun hnil => ?_, fun j hj => ?_⟩
      · exfalso
        have hex : ∃ i, i < ops.size ∧ listed.getD i false = false := by
          have hpos : 0 < (List.range ops.size).countP (fun i => !(listed.getD i false)) := by omega
          rw [List.countP_pos_iff] at hpos
          obtain ⟨i, hi, hp⟩ := hpos
          exact ⟨i, by simpa using hi, by simpa using hp⟩
        obtain ⟨i, hi, hp⟩ := hex
        have hsome : ∀ i, i < ops.size → listed.getD i false = false → ∃ j, j ∈ Region.ready .any ops listed := by
          intro i
          induction i using Nat.strongRecOn with
          | _ i ih2 =>
            intro hi hp
            obtain ⟨o, ho, ho'⟩ := hops i hi
            by_cases hall : ∀ e ∈ o.after.toList, Region.binds .any e = true → listed.getD e.on false = true
            · refine ⟨i, ?_⟩
              unfold Region.ready
              rw [List.mem_filter]
              refine ⟨by simpa using hi, ?_⟩
              have hlt : i < listed.size := by rw [hlsz]; exact hi
              have hp' : listed.getD i true = false := by simpa [Array.getD, hlt] using hp
              rw [hp', ho]
              simp only [Bool.not_false, Bool.true_and, Option.map_some, Option.getD_some]
              rw [Array.all_eq_true']
              intro e he
              cases hb : Region.binds .any e with
              | false => rfl
              | true => simpa using hall e (by simpa using he) hb
            · have : ∃ e ∈ o.after.toList, Region.binds .any e = true ∧ listed.getD e.on false = false := by
                apply Classical.byContradiction
                intro hno
                refine hall fun e he hb => ?_
                cases hv : listed.getD e.on false with
                | true => rfl
                | false => exact absurd ⟨e, he, hb, hv⟩ hno
              obtain ⟨e, he, hb, hv⟩ := this
              have hlt := edgesOk_spec _ _ hed i o ho' e he hb
              rw [Nat.zero_add] at hlt
              exact ih2 e.on hlt (by omega) hv
        obtain ⟨j, hj⟩ := hsome i hi hp
        rw [hnil] at hj
        cases hj
      · -- operation j
        have hjr : j < ops.size ∧ listed.getD j false = false ∧ ∀ o, ops[j]? = some o → ∀ e ∈ o.after.toList, Region.binds .any e = true → listed.getD e.on false = true := by
          unfold Region.ready at hj
          rw [List.mem_filter, Bool.and_eq_true] at hj
          obtain ⟨h1, h2, h3⟩ := hj
          have h1 : j < ops.size := by simpa using h1
          have hlt : j < listed.size := by rw [hlsz]; exact h1
          refine ⟨h1, by simpa [Array.getD, hlt] using h2, fun o ho e he hb => ?_⟩
          rw [ho] at h3
          simp only [Option.map_some, Option.getD_some] at h3
          rw [Array.all_eq_true'] at h3
          have := h3 e (by simpa using he)
          simpa [hb] using this
        obtain ⟨hjn, hnl, hpre⟩ := hjr
        obtain ⟨o, ho, ho'⟩ := hops j hjn
        obtain ⟨s1, ⟨k1, kd, v, k2, k3⟩, k4, k5⟩ := hop j o ho
        have hcl' : ∀ (j : Nat) (o : Oper), listed.getD j false = true → ops.toList[j]? = some o → ∀ e ∈ o.after.toList, Region.binds .any e = true → listed.getD e.on false = true := fun j o h1 h2 => hcl j o h1 (by simpa using h2)
        have hbefore : ∀ i, i < j → ord i j → listed.getD i false = true := by
          rintro i _ ⟨m, hm, hb⟩
          obtain ⟨o2, e, q1, q2, q3, q4⟩ := mask_closed (fun i => listed.getD i false = true) hcl' j m i hm hb
          rw [ho'] at q1
          cases q1
          have := hpre o ho e q2 q3
          rcases q4 with q4 | q4
          · rw [← q4]; exact this
          · exact q4 this
        have hafter : ∀ k, j < k → k < ops.size → ord j k → ¬ listed.getD k false = true := by
          rintro k _ hk ⟨m, hm, hb⟩ hSk
          obtain ⟨o2, e, q1, q2, q3, q4⟩ := mask_closed (fun i => listed.getD i false = true) hcl' k m j hm hb
          have hthis := hcl' k o2 hSk q1 e q2 q3
          have hSj : listed.getD j false = true := by
            rcases q4 with q4 | q4
            · rw [← q4]; exact hthis
            · exact q4 hthis
          rw [hnl] at hSj
          cases hSj
        have hnS : ¬ listed.getD j false = true := by rw [hnl]; simp
        have seet : ∀ t, Ft j t → CS Tt Wt (fun i => listed.getD i false = true) ops.size t = Tt j t := fun t ht => CS_sees hct hjn hnS hbefore hafter ht
        have seeh : ∀ id, Fh j id → CS Th Wh (fun i => listed.getD i false = true) ops.size id = Th j id := fun id hi => CS_sees hch hjn hnS hbefore hafter hi
        have hFj : ∀ id, (id ∈ s1.rd ∨ id ∈ s1.wr) → Fh j id := fun id hi => ⟨_, k4, hi⟩
        have hA := hto (j + 1) (by omega)
        have hFF : ∀ id, (id ∈ s1.rd ∨ id ∈ s1.wr) → F id := by
          rintro id (hi | hi)
          · exact hrd id (hA.rd id (by rw [k5]; exact List.mem_append_left _ hi))
          · exact hwr id (hA.wr id (by rw [k5]; exact List.mem_append_left _ hi))
        have hSj : Sat P G (fun id => id ∈ s1.rd ∨ id ∈ s1.wr) R (ss j).h w :=
          ⟨fun id x hf hg => hobj id x (hFF id hf) (by rw [seeh id (hFj id hf)]; exact hg),
           fun id l hf hl => by have := hdom id l (hFF id hf) hl; rwa [seeh id (hFj id hf)] at this,
           fun id id' x x' l l' f1 f2 hne q1 q2 => hinj id id' x x' l l' (hFF _ f1) (hFF _ f2) hne (by rw [seeh id (hFj id f1)]; exact q1) (by rw [seeh id' (hFj id' f2)]; exact q2), hbas, fun id x l hf hg => hlow id x l (hFF id hf) (by rw [seeh id (hFj id hf)]; exact hg), hsiz⟩
        refine k3 (fun id => id ∈ s1.rd ∨ id ∈ s1.wr) R w a (fun id h => .inl h) (fun id h => .inr h) hSj ?_ hasz ?_ j _ Q ho ?_
        · intro R' hR' q hq
          exact hob R' (hstp.mono.trans hR') q (hA.ob q (by rw [k5]; exact hq))
        · intro t ht
          have := htv t
          rw [seet t ⟨o, ho, .inl ht⟩] at this
          exact this
        · intro R' v' w' hv hS' hst'
          have hle := hst'.mono
          have hjl : j < listed.size := by rw [hlsz]; exact hjn
          have hget : ∀ i, (listed.setIfInBounds j true).getD i false = if i = j then true else listed.getD i false := by
            intro i
            by_cases e : i = j
            · subst e
              simp [Array.getD, hjl]
            · rw [if_neg e]
              simp [Array.getD_eq_getD_getElem?, Array.getElem?_setIfInBounds_ne (Ne.symm e)]
          have hSeq : (fun i => (listed.setIfInBounds j true).getD i false = true) = fun i => listed.getD i false = true ∨ i = j := by
            funext i
            rw [hget]
            by_cases e : i = j <;> simp [e]
          have stept := fun t => CS_step hct hjn hnS hafter t
          have steph := fun id => CS_step hch hjn hnS hafter id
          have hwh : ∀ id, Wh j id ↔ id ∈ s1.wr := fun id => ⟨fun ⟨lg, q1, q2⟩ => by rw [k4] at q1; cases q1; exact q2, fun hi => ⟨_, k4, hi⟩⟩
          have hT1 : ∀ id, Th (j + 1) id = s1.h.get id := fun id => by simp only [Th, k5]
          -- what lies under a name now
          have hnew : ∀ id, id ∈ s1.wr → CS Th Wh (fun i => listed.getD i false = true ∨ i = j) ops.size id = s1.h.get id := fun id hi => by rw [(steph id).1 ((hwh id).2 hi), hT1]
          have hold : ∀ id, id ∉ s1.wr → CS Th Wh (fun i => listed.getD i false = true ∨ i = j) ops.size id = CS Th Wh (fun i => listed.getD i false = true) ops.size id := fun id hi => (steph id).2 (fun hh => hi ((hwh id).1 hh))
          have hsee : ∀ id, (id ∈ s1.rd ∨ id ∈ s1.wr) → CS Th Wh (fun i => listed.getD i false = true) ops.size id = (ss j).h.get id := fun id hi => seeh id (hFj id hi)
          -- a written one against one that was not written
          have hcross : ∀ id id' x x' l l', F id' → id ∈ s1.wr → id' ∉ s1.wr → s1.h.get id = some x → CS Th Wh (fun i => listed.getD i false = true) ops.size id' = some x' → x.live = true → x'.live = true → (x.own = true ∨ x'.own = true) → R' id = some l → R' id' = some l' → l.blk ≠ l'.blk := by
            intro id id' x x' l l' hf' hi hi' hx hx' hv1 hv2 how hl hl'
            obtain ⟨l0, hl0⟩ := (hobj id' x' hf' hx').loc hv2
            have := hle id' l0 hl0
            rw [hl'] at this
            cases this
            have hne : id ≠ id' := by rintro rfl; exact hi' hi
            cases hr : R id with
            | none =>
              obtain ⟨_, hb⟩ := hst'.newb id l hl hr
              rcases hb with hb | ⟨id0, l1, o0, p1, p2, p3, p4, p5⟩
              · have := (hobj id' x' hf' hx').lt' hl0 hv2
                omega
              · rw [← p3]
                exact hinj id0 id' o0 x' l1 l' (hFF _ (.inr p1)) hf' (by rintro rfl; exact hi' p1) (by rw [hsee id0 (.inr p1)]; exact p4) hx' (AObj.own_live p5) hv2 (.inl p5) p2 hl0
            | some l1 =>
              have := hle id l1 hr
              rw [hl] at this
              cases this
              cases hg0 : (ss j).h.get id with
              | none =>
                have hev := k1.even id hg0 (by rw [hx]; rfl)
                have := hdom id l (hFF _ (.inr hi)) hr
                rw [hsee id (.inr hi), hg0] at this
                simp at this
                omega
              | some x0 =>
                have hlv : x0.live = true := by
                  rcases k1.alive id x hx hv1 with hn | ⟨y, hy, hyl⟩
                  · rw [show (({ ss j with rd := [], wr := [] } : St).h.get id) = (ss j).h.get id from rfl, hg0] at hn; cases hn
                  · rw [show (({ ss j with rd := [], wr := [] } : St).h.get id) = (ss j).h.get id from rfl, hg0] at hy; cases hy; exact hyl
                have how0 : x0.own = true ∨ x'.own = true := by
                  rcases how with how | how
                  · rcases k1.keep id x hx how with hn | ⟨y, hy, hyl⟩
                    · rw [show (({ ss j with rd := [], wr := [] } : St).h.get id) = (ss j).h.get id from rfl, hg0] at hn; cases hn
                    · rw [show (({ ss j with rd := [], wr := [] } : St).h.get id) = (ss j).h.get id from rfl, hg0] at hy; cases hy; exact .inl hyl
                  · exact .inr how
                exact hinj id id' x0 x' l l' (hFF _ (.inr hi)) hf' hne (by rw [hsee id (.inr hi)]; exact hg0) hx' hlv hv2 how0 hr hl0
          refine ih (listed.setIfInBounds j true) R' (a.put o.dst v') w' ?_ (by simp [hlsz]) ?_ ?_ ?_ ?_ ?_ ?_ ?_ hS'.bas ?_ hS'.siz ?_
          · have hc := countP_one (l := List.range ops.size) List.nodup_range (i := j) (by simpa using hjn) (p := fun i => !(listed.getD i false)) (by simp [hnl])
            have he : (fun i => !((listed.setIfInBounds j true).getD i false)) = fun i => (!(listed.getD i false)) && decide (i ≠ j) := by
              funext i
              rw [hget]
              by_cases e : i = j <;> simp [e]
            rw [he]
            omega
          · intro i o2 hi ho2 e he hb
            rw [hget] at hi ⊢
            by_cases e1 : i = j
            · subst e1
              by_cases e2 : e.on = i
              · simp [e2]
              · rw [if_neg e2]
                exact hpre o2 ho2 e he hb
            · rw [if_neg e1] at hi
              by_cases e2 : e.on = j
              · simp [e2]
              · rw [if_neg e2]
                exact hcl i o2 hi ho2 e he hb
          · cases hd : o.dst <;> simp [Act.put, hasz]
          · cases hd : o.dst <;> simp [Act.put, hadf]
          · intro t
            rw [hSeq]
            by_cases e : o.dst = some t
            · rw [(stept t).1 ⟨o, ho, e⟩]
              have hlt := kd t e
              have hlt2 : t < a.tmps.size := by rw [hasz]; exact hlt
              simp only [Tt, k2, putT, e, Tr.get_set, if_true, Option.getD_some]
              simpa [Act.put, Array.getD, hlt2] using hv
            · have hnw : ¬ Wt j t := by
                rintro ⟨o2, q1, q2⟩
                rw [ho] at q1
                cases q1
                exact e q2
              rw [(stept t).2 hnw]
              have hsame : (a.put o.dst v').tmps.getD t undef = a.tmps.getD t undef := by
                cases hd : o.dst with
                | none => rfl
                | some d =>
                  have hne : d ≠ t := by rintro rfl; exact e hd
                  simp [Act.put, Array.getD_eq_getD_getElem?, Array.getElem?_setIfInBounds_ne hne]
              rw [hsame]
              exact (htv t).mono hle
          · intro id x hf hg
            rw [hSeq] at hg
            by_cases hi : id ∈ s1.wr
            · rw [hnew id hi] at hg
              exact hS'.obj id x (.inr hi) hg
            · rw [hold id hi] at hg
              by_cases hv1 : x.live = true
              · refine (hobj id x hf hg).keep hle hst'.kp.size fun l hl hlt => hst'.kp.block _ hlt ?_
                rintro ⟨id0, l1, o0, p1, p2, p3, p4, p5⟩
                exact hinj id0 id o0 x l1 l (hFF _ (.inr p1)) hf (by rintro rfl; exact hi p1) (by rw [hsee id0 (.inr p1)]; exact p4) hg (AObj.own_live p5) hv1 (.inl p5) p2 hl p3
              · exact (hobj id x hf hg).dull hle hv1
          · intro id l hf hl
            rw [hSeq]
            by_cases hi : id ∈ s1.wr
            · rw [hnew id hi]
              exact hS'.dom id l (.inr hi) hl
            · rw [hold id hi]
              cases hr : R id with
              | none => exact absurd (hst'.newb id l hl hr).1 hi
              | some l0 => exact hdom id l0 hf hr
          · intro id id' x x' l l' f1 f2 hne q1 q2 hv1 hv2 how hl hl'
            rw [hSeq] at q1 q2
            by_cases hi : id ∈ s1.wr
            · rw [hnew id hi] at q1
              by_cases hi' : id' ∈ s1.wr
              · rw [hnew id' hi'] at q2
                exact hS'.inj id id' x x' l l' (.inr hi) (.inr hi') hne q1 q2 hv1 hv2 how hl hl'
              · rw [hold id' hi'] at q2
                exact hcross id id' x x' l l' f2 hi hi' q1 q2 hv1 hv2 how hl hl'
            · rw [hold id hi] at q1
              by_cases hi' : id' ∈ s1.wr
              · rw [hnew id' hi'] at q2
                exact fun e => hcross id' id x' x l' l f1 hi' hi q2 q1 hv2 hv1 how.symm hl' hl e.symm
              · rw [hold id' hi'] at q2
                obtain ⟨l0, hl0⟩ := (hobj id x f1 q1).loc hv1
                obtain ⟨l1, hl1⟩ := (hobj id' x' f2 q2).loc hv2
                have e1 := hle id l0 hl0
                have e2 := hle id' l1 hl1
                rw [hl] at e1
                rw [hl'] at e2
                cases e1
                cases e2
                exact hinj id id' x x' l l' f1 f2 hne q1 q2 hv1 hv2 how hl0 hl1
          · intro id x l hf hg hw hl
            rw [hSeq] at hg
            by_cases hi : id ∈ s1.wr
            · rw [hnew id hi] at hg
              exact hS'.low id x l (.inr hi) hg hw hl
            · rw [hold id hi] at hg
              obtain ⟨l0, hl0⟩ := (hobj id x hf hg).loc (AObj.own_live hw)
              have e1 := hle id l0 hl0
              rw [hl] at e1
              cases e1
              exact hlow id x l hf hg hw hl0
          · have hwr' : ∀ id ∈ s1.wr, id ∈ s'.wr := fun id hi => hA.wr id (by rw [k5]; exact List.mem_append_left _ hi)
            exact hstp.trans hS0 (hfrom j (by omega)) hwr (hst'.more hwr')
  -- at the start
  have hS00 : (fun i => (Array.replicate ops.size false).getD i false = true) = fun _ => False := by
    funext i
    simp [Array.getD]
  refine main ops.size (Array.replicate ops.size false) R0 a0 w0 ?_ (by simp) ?_ ha0.size ha0.defers ?_ ?_ ?_ ?_ hS0.bas ?_ hS0.siz (Step.refl _ _ _ _)
  · rw [List.countP_eq_length.2]
    · simp
    · intro i _
      simp [Array.getD]
  · intro j o hj
    simp [Array.getD] at hj
  · intro t
    rw [hS00, CS_none]
    simpa [Tt, g1] using ha0.val t
  · intro id o hf hg
    rw [hS00, CS_none] at hg
    exact hS0.obj id o hf (by simpa [Th, g2] using hg)
  · intro id l hf hl
    rw [hS00, CS_none]
    simpa [Th, g2] using hS0.dom id l hf hl
  · intro id id' o o' l l' f1 f2 hne q1 q2
    rw [hS00, CS_none] at q1 q2
    exact hS0.inj id id' o o' l l' f1 f2 hne (by simpa [Th, g2] using q1) (by simpa [Th, g2] using q2)
  · intro id o l hf hg
    rw [hS00, CS_none] at hg
    exact hS0.low id o l hf (by simpa [Th, g2] using hg)

theorem evDrawn_ok (hX : ExtOk P X) (hcall : ∀ f args s v s', call f args s = some (v, s') → CallS P G f args s v s') {nt : Nat} {ops : Array Oper} {tm tm' : Tr Value} {s s' : St} {logs : List (List Nat × List Nat)}
    (hst : staticOk ops = true) (h : evDrawn P X call nt ops ops.toList tm s = some (tm', s', logs)) (hlg : logsOk ops logs = true) :
    ARun s s' ∧ ∀ (F : Nat → Prop) (R0 : Ren) (w0 : World) (a0 : Act), (∀ id ∈ s'.rd, F id) → (∀ id ∈ s'.wr, F id) → Sat P G F R0 s.h w0 → (∀ R', R0.le R' → ∀ q ∈ s'.ob, q R') → ActR R0 nt tm a0 →
      ∀ Q : Exit → Act → World → Prop, (∀ R' a' w', ActR R' nt tm' a' → Sat P G F R' s'.h w' → Step R0 w0 s.h R' w' s'.wr → Q .normal a' w') → wpAny P .any ops Q ops.size (Array.replicate ops.size false) a0 w0 := by
  obtain ⟨tms, ss, g1, g2, g3, g4, g5, g6⟩ := evDrawn_seq _ _ _ _ _ _ h
  have hn : ops.toList.length = ops.size := by simp
  rw [hn] at g3 g4 g5
  refine drawn_ok g1 g2 g3 g4 g5 ?_ hst hlg
  intro j o hj
  obtain ⟨s1, k1, k2, k3⟩ := g6 j o (by simpa using hj)
  exact ⟨s1, evOp1_ok hX hcall k1, k2, k3⟩
end
end Go.Proofs.Ytahopbjoaoiknaa

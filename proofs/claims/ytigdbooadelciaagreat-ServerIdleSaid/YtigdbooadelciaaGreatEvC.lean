/- An evaluator over named blocks: the sum CRC-32 as a call that is known beforehand. Nothing of the program stands here. -/
import Derived.Test.YtigdbooadelciaaGreatEvR
namespace Go.Proofs.YtigdbooadelciaaGreat
set_option linter.unusedVariables false
set_option linter.unusedSimpArgs false
open Go.RowKit

def crcBit (c : Nat) : Nat := match Nat.beq (c % 2) 1 with
  | true => Nat.xor (c / 2) 3988292384
  | false => c / 2
def crcByte (c : Nat) : Nat := crcBit (crcBit (crcBit (crcBit (crcBit (crcBit (crcBit (crcBit c)))))))
def crcTab : List Nat := [0, 1996959894, 3993919788, 2567524794, 124634137, 1886057615, 3915621685, 2657392035, 249268274, 2044508324, 3772115230, 2547177864, 162941995, 2125561021, 3887607047, 2428444049, 498536548, 1789927666, 4089016648, 2227061214, 450548861, 1843258603, 4107580753, 2211677639, 325883990, 1684777152, 4251122042, 2321926636, 335633487, 1661365465, 4195302755, 2366115317, 997073096, 1281953886, 3579855332, 2724688242, 1006888145, 1258607687, 3524101629, 2768942443, 901097722, 1119000684, 3686517206, 2898065728, 853044451, 1172266101, 3705015759, 2882616665, 651767980, 1373503546, 3369554304, 3218104598, 565507253, 1454621731, 3485111705, 3099436303, 671266974, 1594198024, 3322730930, 2970347812, 795835527, 1483230225, 3244367275, 3060149565, 1994146192, 31158534, 2563907772, 4023717930, 1907459465, 112637215, 2680153253, 3904427059, 2013776290, 251722036, 2517215374, 3775830040, 2137656763, 141376813, 2439277719, 3865271297, 1802195444, 476864866, 2238001368, 4066508878, 1812370925, 453092731, 2181625025, 4111451223, 1706088902, 314042704, 2344532202, 4240017532, 1658658271, 366619977, 2362670323, 4224994405, 1303535960, 984961486, 2747007092, 3569037538, 1256170817, 1037604311, 2765210733, 3554079995, 1131014506, 879679996, 2909243462, 3663771856, 1141124467, 855842277, 2852801631, 3708648649, 1342533948, 654459306, 3188396048, 3373015174, 1466479909, 544179635, 3110523913, 3462522015, 1591671054, 702138776, 2966460450, 3352799412, 1504918807, 783551873, 3082640443, 3233442989, 3988292384, 2596254646, 62317068, 1957810842, 3939845945, 2647816111, 81470997, 1943803523, 3814918930, 2489596804, 225274430, 2053790376, 3826175755, 2466906013, 167816743, 2097651377, 4027552580, 2265490386, 503444072, 1762050814, 4150417245, 2154129355, 426522225, 1852507879, 4275313526, 2312317920, 282753626, 1742555852, 4189708143, 2394877945, 397917763, 1622183637, 3604390888, 2714866558, 953729732, 1340076626, 3518719985, 2797360999, 1068828381, 1219638859, 3624741850, 2936675148, 906185462, 1090812512, 3747672003, 2825379669, 829329135, 1181335161, 3412177804, 3160834842, 628085408, 1382605366, 3423369109, 3138078467, 570562233, 1426400815, 3317316542, 2998733608, 733239954, 1555261956, 3268935591, 3050360625, 752459403, 1541320221, 2607071920, 3965973030, 1969922972, 40735498, 2617837225, 3943577151, 1913087877, 83908371, 2512341634, 3803740692, 2075208622, 213261112, 2463272603, 3855990285, 2094854071, 198958881, 2262029012, 4057260610, 1759359992, 534414190, 2176718541, 4139329115, 1873836001, 414664567, 2282248934, 4279200368, 1711684554, 285281116, 2405801727, 4167216745, 1634467795, 376229701, 2685067896, 3608007406, 1308918612, 956543938, 2808555105, 3495958263, 1231636301, 1047427035, 2932959818, 3654703836, 1088359270, 936918000, 2847714899, 3736837829, 1202900863, 817233897, 3183342108, 3401237130, 1404277552, 615818150, 3134207493, 3453421203, 1423857449, 601450431, 3009837614, 3294710456, 1567103746, 711928724, 3020668471, 3272380065, 1510334235, 755167117]
/-- By the table. -/
def crcT (c x : Nat) : Nat := Nat.xor (crcByte (Nat.xor (c % 256) x)) (c / 256)
/-- Bit by bit. -/
def crcB (c x : Nat) : Nat := crcByte (Nat.xor c x)
def crcRun (f : Nat → Nat → Nat) : List Nat → Nat → Nat
  | [], c => c
  | x :: l, c => match Nat.beq (f c x) 0 with
    | true => crcRun f l 0
    | false => crcRun f l (f c x)
theorem crcRun_cons (f : Nat → Nat → Nat) (x : Nat) (l : List Nat) (c : Nat) : crcRun f (x :: l) c = crcRun f l (f c x) := by
  simp only [crcRun]
  split
  · rename_i h
    rw [Nat.eq_of_beq_eq_true h]
  · rfl
def crcL (f : Nat → Nat → Nat) (c : Nat) (l : List Nat) : Nat := Nat.xor (crcRun f l (Nat.xor c 4294967295)) 4294967295

def tabV : List Value := crcTab.map fun n => .int .u32 (.ofNat n)
def sumCells (d : Bool) : List Value := match d with
  | true => .int .u32 (.ofNat 1) :: .int .i32 (.ofNat 0) :: .int .u32 (.ofNat 0) :: .int .u32 (.ofNat 1) :: tabV
  | false => .int .u32 (.ofNat 0) :: .int .i32 (.ofNat 0) :: .int .u32 (.ofNat 0) :: .int .u32 (.ofNat 0) :: List.replicate 256 (.int .u32 (.ofNat 0))
def tabOk : List Value → List Nat → Bool
  | [], [] => true
  | .int .u32 (.ofNat n) :: cs, m :: ms => match Nat.beq n m with
    | true => tabOk cs ms
    | false => false
  | _, _ => false
theorem tabOk_eq : ∀ {cs : List Value} {ms : List Nat}, tabOk cs ms = true → cs = ms.map fun n => .int .u32 (.ofNat n)
  | [], [], _ => rfl
  | .int .u32 (.ofNat n) :: cs, m :: ms, h => by
    simp only [tabOk] at h
    split at h
    · rename_i e
      rw [Nat.eq_of_beq_eq_true e, tabOk_eq h]
      rfl
    · cases h
def tab0 : Nat → List Value → Bool
  | 0, [] => true
  | n + 1, .int .u32 (.ofNat k) :: cs => match Nat.beq k 0 with
    | true => tab0 n cs
    | false => false
  | _, _ => false
theorem tab0_eq : ∀ {n : Nat} {cs : List Value}, tab0 n cs = true → cs = List.replicate n (.int .u32 (.ofNat 0))
  | 0, [], _ => rfl
  | n + 1, .int .u32 (.ofNat k) :: cs, h => by
    simp only [tab0] at h
    split at h
    · rename_i e
      rw [Nat.eq_of_beq_eq_true e, tab0_eq h]
      rfl
    · cases h
def sumState : List Value → Option Bool
  | .int .u32 (.ofNat a) :: .int .i32 (.ofNat b) :: .int .u32 (.ofNat c) :: .int .u32 (.ofNat d) :: tab => match Nat.beq b 0 && Nat.beq c 0 with
    | false => none
    | true => match Nat.beq a 0 && Nat.beq d 0 with
      | true => match tab0 256 tab with
        | true => some false
        | false => none
      | false => match Nat.beq a 1 && Nat.beq d 1 with
        | true => match tabOk tab crcTab with
          | true => some true
          | false => none
        | false => none
  | _ => none
theorem sumState_eq {cs : List Value} {d : Bool} (h : sumState cs = some d) : cs = sumCells d := by
  unfold sumState at h
  split at h
  · rename_i a b c d' tab
    split at h
    · cases h
    rename_i h1
    rw [Bool.and_eq_true] at h1
    have e1 := Nat.eq_of_beq_eq_true h1.1
    have e2 := Nat.eq_of_beq_eq_true h1.2
    subst e1
    subst e2
    split at h
    · rename_i h2
      rw [Bool.and_eq_true] at h2
      have e1 := Nat.eq_of_beq_eq_true h2.1
      have e2 := Nat.eq_of_beq_eq_true h2.2
      subst e1
      subst e2
      split at h
      · rename_i h3
        cases h
        rw [tab0_eq h3]
        rfl
      · cases h
    · split at h
      · rename_i h2
        rw [Bool.and_eq_true] at h2
        have e1 := Nat.eq_of_beq_eq_true h2.1
        have e2 := Nat.eq_of_beq_eq_true h2.2
        subst e1
        subst e2
        split at h
        · rename_i h3
          cases h
          rw [tabOk_eq h3]
          rfl
        · cases h
      · cases h
  · cases h

def natsOf : List Value → Option (List Nat)
  | [] => some []
  | .int .u8 (.ofNat n) :: l => match Nat.blt n 256 with
    | true => (natsOf l).map (n :: ·)
    | false => none
  | _ :: _ => none
theorem natsOf_eq : ∀ {cs : List Value} {l : List Nat}, natsOf cs = some l → cs = l.map (fun n => .int .u8 (.ofNat n)) ∧ ∀ n ∈ l, n < 256
  | [], l, h => by cases h; exact ⟨rfl, by simp⟩
  | .int .u8 (.ofNat n) :: cs, l, h => by
    simp only [natsOf] at h
    split at h
    · rename_i hn
      have hn := Nat.le_of_ble_eq_true hn
      obtain ⟨l', hl', rfl⟩ := Option.map_eq_some_iff.1 h
      obtain ⟨h1, h2⟩ := natsOf_eq hl'
      refine ⟨by rw [h1]; rfl, fun m hm => ?_⟩
      rcases List.mem_cons.1 hm with rfl | hm
      · exact hn
      · exact h2 m hm
    · cases h
/-- The bytes of a slice. -/
def byteSrc (y : Value) (s : St) : Option (List Nat × St) :=
  match y with
  | .slice none 0 _ => some ([], s)
  | .slice (some ⟨g, off, none⟩) n _ => match Nat.beq n 0 with
    | true => some ([], s)
    | false => match rowAt s g with
      | none => none
      | some (cs, s1) => match natsOf ((cs.drop off).take n) with
        | none => none
        | some l => match Nat.beq l.length n && Nat.ble n 9223372036854775807 with
          | true => some (l, s1)
          | false => none
  | _ => none

/-- Bytes that lie at a slice's place, in no block of those of S. -/
def BytesAt (w : World) (b : Nat) (A : Option Addr) (l : List Nat) : Prop := ∀ (k : Nat) (h : k < l.length), ∃ g off, A = some ⟨g, off, none⟩ ∧ g ≠ b ∧ l[k] < 256 ∧ w.cell? ⟨g, off + k, none⟩ = some (.int .u8 (l[k] : Int))

section
variable {P : Program} {G : Gd}

theorem byteSrc_ok {y : Value} {s s1 : St} {l : List Nat} (h : byteSrc y s = some (l, s1)) :
    ARun s s1 ∧ s1.h = s.h ∧ s1.wr = s.wr ∧ s1.c = s.c ∧ s1.ob = s.ob ∧ l.length ≤ 9223372036854775807 ∧ ∀ (F : Nat → Prop) (R : Ren) (w : World) (yv : Value), (∀ id ∈ s1.rd, F id) → Sat P G F R s.h w → VR R y yv →
      ∃ A cap, yv = .slice A l.length cap ∧ ∀ (k : Nat) (h : k < l.length), ∃ g off, A = some ⟨g, off, none⟩ ∧ l[k] < 256 ∧ w.cell? ⟨g, off + k, none⟩ = some (.int .u8 (l[k] : Int)) := by
  unfold byteSrc at h
  split at h
  · rename_i c
    cases h
    refine ⟨ARun.refl _, rfl, rfl, rfl, rfl, by simp, fun F R w yv _ _ hy => ?_⟩
    have hy : yv = .slice none 0 c := hy
    subst hy
    exact ⟨_, _, rfl, fun k hk => by simp at hk⟩
  · rename_i g off n c
    split at h
    · rename_i hn
      have hn := Nat.eq_of_beq_eq_true hn
      subst hn
      cases h
      refine ⟨ARun.refl _, rfl, rfl, rfl, rfl, by simp, fun F R w yv _ _ hy => ?_⟩
      obtain ⟨L, hL, rfl⟩ := hy
      exact ⟨_, _, rfl, fun k hk => by simp at hk⟩
    split at h
    · cases h
    rename_i cs s2 hr
    split at h
    · cases h
    rename_i l' hl
    split at h
    · rename_i hb
      rw [Bool.and_eq_true] at hb
      have b1 := Nat.eq_of_beq_eq_true hb.1
      have b2 := Nat.le_of_ble_eq_true hb.2
      cases h
      obtain ⟨r1, r2, r3, r4, r5, r6, r7⟩ := rowAt_ok (P := P) (G := G) hr
      refine ⟨r1, r2, r3, r4, r5, by omega, fun F R w yv hrd hS hy => ?_⟩
      obtain ⟨L, hL, rfl⟩ := hy
      obtain ⟨L', hL', hc⟩ := r7 F R w hrd hS
      simp only at hL
      rw [hL] at hL'
      cases hL'
      obtain ⟨e, hlt⟩ := natsOf_eq hl
      refine ⟨_, _, by rw [b1], fun k hk => ⟨_, _, rfl, hlt _ (List.getElem_mem hk), ?_⟩⟩
      have hx : ((cs.drop off).take n)[k]? = some (.int .u8 (.ofNat l[k])) := by rw [e]; simp [hk]
      rw [List.getElem?_take_of_lt (by omega), List.getElem?_drop] at hx
      obtain ⟨v, hv, hcv⟩ := hc _ _ hx
      have hv : v = .int .u8 (.ofNat l[k]) := hv
      rw [hv] at hcv
      rw [Nat.add_assoc]
      exact hcv
    · cases h
  · cases h

/-- The contract of a Summer's More. -/
def CrcOk (P : Program) (fM : FuncId) (tS : TypeId) : Prop :=
  ∀ (b : Nat) (d : Bool) (c : Nat) (A : Option Addr) (cap : Nat) (l : List Nat) (w : World), c < 4294967296 → w.heap[b]? = some (.cells ⟨sumCells d⟩ tS (0, 0)) → l.length ≤ 9223372036854775807 → BytesAt w b A l →
    Calls P fM ⟨[.pointer (some ⟨b, 0, none⟩), .int .u32 c, .slice A l.length cap]⟩ w fun e w' => e = .returned (.int .u32 (crcL crcT c l : Nat)) ∧ w'.heap[b]? = some (.cells ⟨sumCells true⟩ tS (0, 0)) ∧ Kp (fun k => k = b) w w'
def evCrc (tS : TypeId) (args : List Value) (s : St) : Option (Value × St) :=
  match args with
  | [.pointer (some ⟨id, 0, none⟩), .int .u32 (.ofNat c), y] => match s.h.get id with
    | some (.cells cs t) => match Nat.beq t tS && Nat.blt c 4294967296 with
      | false => none
      | true => match sumState cs with
        | none => none
        | some _ => match byteSrc y s with
          | none => none
          | some (l, s1) => some (.int .u32 (.ofNat (crcL crcT c l)), s1.put id (.cells (sumCells true) t))
    | _ => none
  | _ => none

theorem sumCells_flat (d : Bool) : flatL (sumCells d) = true := by cases d <;> kernel_rfl
theorem sumCells_u8 (d : Bool) (j : Nat) (n : Int) : (sumCells d)[j]? ≠ some (.int .u8 n) := by
  intro h
  have hm := List.mem_of_getElem? h
  cases d with
  | false =>
    simp only [sumCells, List.mem_cons, List.mem_replicate] at hm
    rcases hm with hm | hm | hm | hm | ⟨_, hm⟩ <;> cases hm
  | true =>
    simp only [sumCells, tabV, List.mem_cons, List.mem_map] at hm
    rcases hm with hm | hm | hm | hm | ⟨_, _, hm⟩ <;> cases hm

theorem evCrc_ok {fM : FuncId} {tS : TypeId} (hC : CrcOk P fM tS) {args : List Value} {s s' : St} {v : Value} (h : evCrc tS args s = some (v, s')) : CallS P G fM args s v s' := by
  unfold evCrc at h
  split at h
  · rename_i id c y
    split at h
    · rename_i cs t ho
      split at h
      · cases h
      rename_i hb
      rw [Bool.and_eq_true] at hb
      have b1 := Nat.eq_of_beq_eq_true hb.1
      have b2 : c < 4294967296 := Nat.le_of_ble_eq_true hb.2
      subst b1
      split at h
      · cases h
      rename_i d hd
      have hcs := sumState_eq hd
      subst hcs
      split at h
      · cases h
      rename_i l s1 hl
      simp only [Option.some.injEq, Prod.mk.injEq] at h
      obtain ⟨rfl, rfl⟩ := h
      obtain ⟨a1, a2, a3, a4, a5, a6, a7⟩ := byteSrc_ok (P := P) (G := G) hl
      have ho1 : s1.h.get id = some (.cells (sumCells d) t) := by rw [a2]; exact ho
      refine ⟨a1.trans (ARun.put _ ho1 rfl), fun F R w avs hrd hwr hS _ ha => ?_⟩
      obtain ⟨v1, r1, k1, ⟨v2, r2, k2, ⟨v3, r3, k3, k4, rfl⟩, rfl⟩, rfl⟩ := ha
      simp only [VRs] at k4
      subst k4
      obtain ⟨L, hL, rfl⟩ := k1
      have k2 : v2 = .int .u32 (.ofNat c) := k2
      subst k2
      have hF : F id := hwr id (by simp [St.put])
      obtain ⟨L', cur, h1, h2, h3, h4, h5⟩ := hS.obj id _ hF ho
      simp only at hL
      rw [hL] at h1
      cases h1
      rw [VRs.flat (sumCells_flat d)] at h4
      subst h4
      obtain ⟨A, cap, rfl, hbytes⟩ := a7 F R w _ hrd hS k3
      have hBy : BytesAt w L.blk A l := fun k hk => by
        obtain ⟨g, off, e1, e2, e3⟩ := hbytes k hk
        refine ⟨g, off, e1, ?_, e2, e3⟩
        rintro rfl
        simp only [World.cell?, h5] at e3
        exact sumCells_u8 d _ _ (by simpa using e3)
      have := hC L.blk d c A cap l w b2 h5 a6 hBy
      rw [h2]
      refine this.mono ?_
      rintro e w' ⟨rfl, q1, q2⟩
      have hS1 : Sat P G F R s1.h w := by rw [a2]; exact hS
      obtain ⟨g1, g2⟩ := hS1.write (o' := .cells (sumCells true) t) hF ho1 rfl rfl hL s1.wr ⟨L, sumCells true, hL, h2, h3, (VRs.flat (sumCells_flat true)).2 rfl, q1⟩ q2
      exact ⟨R, _, rfl, rfl, g1, by rw [a2] at g2; exact g2⟩
    · cases h
  · cases h

/-- The contract of the reference's More. -/
def RefCrcOk (P : Program) (fM : FuncId) : Prop :=
  ∀ (c : Nat) (A : Option Addr) (cap : Nat) (l : List Nat) (w : World), c < 4294967296 → l.length ≤ 9223372036854775807 → (∀ (k : Nat) (h : k < l.length), ∃ g off, A = some ⟨g, off, none⟩ ∧ l[k] < 256 ∧ w.cell? ⟨g, off + k, none⟩ = some (.int .u8 (l[k] : Int))) →
    Calls P fM ⟨[.int .u32 c, .slice A l.length cap]⟩ w fun e w' => e = .returned (.int .u32 (crcL crcB c l : Nat)) ∧ Kp (fun _ => False) w w'
def evRefCrc (args : List Value) (s : St) : Option (Value × St) :=
  match args with
  | [.int .u32 (.ofNat c), y] => match Nat.blt c 4294967296 with
    | false => none
    | true => match byteSrc y s with
      | none => none
      | some (l, s1) => some (.int .u32 (.ofNat (crcL crcB c l)), s1)
  | _ => none
theorem evRefCrc_ok {fM : FuncId} (hC : RefCrcOk P fM) {args : List Value} {s s' : St} {v : Value} (h : evRefCrc args s = some (v, s')) : CallS P G fM args s v s' := by
  unfold evRefCrc at h
  split at h
  · rename_i c y
    split at h
    · cases h
    rename_i hb
    have b2 : c < 4294967296 := Nat.le_of_ble_eq_true hb
    split at h
    · cases h
    rename_i l s1 hl
    simp only [Option.some.injEq, Prod.mk.injEq] at h
    obtain ⟨rfl, rfl⟩ := h
    obtain ⟨a1, a2, a3, a4, a5, a6, a7⟩ := byteSrc_ok (P := P) (G := G) hl
    refine ⟨a1, fun F R w avs hrd hwr hS _ ha => ?_⟩
    obtain ⟨v2, r2, k2, ⟨v3, r3, k3, k4, rfl⟩, rfl⟩ := ha
    simp only [VRs] at k4
    subst k4
    have k2 : v2 = .int .u32 (.ofNat c) := k2
    subst k2
    obtain ⟨A, cap, rfl, hbytes⟩ := a7 F R w _ hrd hS k3
    refine (hC c A cap l w b2 a6 hbytes).mono ?_
    rintro e w' ⟨rfl, q2⟩
    obtain ⟨g1, g2⟩ := kp_step hS q2 s1.wr
    exact ⟨R, _, rfl, rfl, by rw [a2]; exact g1, g2⟩
  · cases h
end
end Go.Proofs.YtigdbooadelciaaGreat

/- How many items two experts say the same of: contract of the reference's AgreeShare. No condition but the sizes. -/
import Derived.Test.YtpnkeaeikcobfaaGreatDoorOpAgree
import Derived.Test.YtpnkeaeikcobfaaGreatDoorApp
namespace Go.Proofs.YtpnkeaeikcobfaaGreatDoor
set_option linter.unusedVariables false
set_option linter.unusedSimpArgs false
open Go.RowKit
attribute [local irreducible] wpQuiet
set_option maxRecDepth 100000 in
set_option maxHeartbeats 2000000 in
theorem l1Has_c (ys : List Int) (A : Option Addr) (c : Nat) (n : Int) (w : World) (hr : Rd encI 1 w.heap.size w A ys) (hn : ys.length ≤ 2097152) :
    Calls Tryz.prog 44 #[.slice A ys.length c, .int .i64 n] w (Pure (.bool (decide (n ∈ ys))) w) := by
  go_enter Tryz.func44, Tryz.ntmps44
  go_wp2_with fail
  go_loop [5] (fun i => ∃ k : Nat, k ≤ ys.length ∧ i = .int .i64 k ∧ (∀ y ∈ ys.take k, y ≠ n)) (fun i => ys.length - (intOf i).toNat)
  case atStart => exact ⟨0, Nat.zero_le _, rfl, by simp⟩
  case round =>
    obtain ⟨k, hk, rfl, hall⟩ := hrel
    have HA := Lib.hid hall
    clear hall
    by_cases hlt : k < ys.length
    · obtain ⟨b, off, rfl, hbs, d0⟩ := hr.int hlt
      by_cases h1 : ys[k] = n
      · have h1' : (ys[k] == n) = true := by simpa using h1
        have HV := Lib.hid (show decide (n ∈ ys) = true from decide_eq_true (h1 ▸ List.getElem_mem hlt))
        clear h1
        go_wp2_with fail
        go_returns
        exact ⟨ret_bool HV.out.symm, rfl⟩
      · have h1' : (ys[k] == n) = false := by simpa using h1
        have HV := Lib.hid (show ∀ y ∈ ys.take (k + 1), y ≠ n by
          rw [take_succ_get ys k hlt]; intro x hx; rcases List.mem_append.1 hx with h | h
          · exact HA.out x h
          · simp at h; subst h; exact h1)
        clear h1
        go_wp2_with fail
        go_round
        case rel => exact ⟨k + 1, by omega, by go_num, HV.out⟩
        case measure => simp [intOf]; omega
    · have hke : ys.take k = ys := List.take_of_length_le (by omega)
      have HV := Lib.hid (show decide (n ∈ ys) = false from decide_eq_false (fun h => HA.out n (by rw [hke]; exact h) rfl))
      clear hke
      go_wp2_with fail
      go_returns
      exact ⟨ret_bool HV.out.symm, rfl⟩
def memT (xs : List Opinion) (k : Nat) (z : Int) : Bool := (xs.take k).any fun x => decide (x.item = z)
theorem memT_next {xs : List Opinion} {k : Nat} (h : k < xs.length) (z : Int) : memT xs (k + 1) z = (memT xs k z || decide (xs[k].item = z)) := by
  unfold memT; rw [take_succ_get xs k h, List.any_append]; simp
def cT (p : Int → Bool) (xs : List Opinion) (k : Nat) : Int := cntI (fun z => memT xs k z && p z) 999
theorem cnt_congr {p q : Int → Bool} (h : ∀ z, p z = q z) (k : Nat) : cntI p k = cntI q k := by rw [funext h]
theorem cnt_zero {p : Int → Bool} (h : ∀ z, p z = false) : ∀ k, cntI p k = 0
  | 0 => rfl
  | k + 1 => by rw [cnt_no (h _), cnt_zero h k]
theorem cT_0 (p : Int → Bool) (xs : List Opinion) : cT p xs 0 = 0 := cnt_zero (fun z => by simp [memT]) _
theorem cT_in {p : Int → Bool} {xs : List Opinion} {k : Nat} (h : k < xs.length) (hm : memT xs k xs[k].item = true) : cT p xs (k + 1) = cT p xs k :=
  cnt_congr (fun z => by
    rw [memT_next h]
    by_cases e : xs[k].item = z
    · subst e; rw [hm]; simp
    · rw [decide_eq_false e, Bool.or_false]) _
theorem cT_no {p : Int → Bool} {xs : List Opinion} {k : Nat} (h : k < xs.length) (hp : p xs[k].item = false) : cT p xs (k + 1) = cT p xs k :=
  cnt_congr (fun z => by
    rw [memT_next h]
    by_cases e : xs[k].item = z
    · subst e; rw [hp]; simp
    · rw [decide_eq_false e, Bool.or_false]) _
theorem cT_yes {p : Int → Bool} {xs : List Opinion} {k : Nat} (h : k < xs.length) (hm : memT xs k xs[k].item = false) (hp : p xs[k].item = true) (h1 : 1 ≤ xs[k].item) (h2 : xs[k].item ≤ 999) : cT p xs (k + 1) = cT p xs k + 1 := by
  unfold cT
  rw [cnt_step (p := fun z => memT xs k z && p z) (z0 := xs[k].item) (fun z hz => by
    rw [memT_next h, decide_eq_false (fun e => hz e.symm), Bool.or_false]) (by rw [hm]; rfl) (by rw [memT_next h, hp]; simp) h1, if_pos (by omega)]
theorem cT_all {p : Int → Bool} {xs : List Opinion} (h : ∀ z, p z = true → memT xs xs.length z = true) : cT p xs xs.length = cntI p 999 :=
  cnt_congr (fun z => by
    cases hp : p z with
    | true => rw [h z hp]; rfl
    | false => simp) _
theorem lastO_nat {xs : List Opinion} {z d : Int} {e : ByteArray} (h : 0 ≤ lastO xs z e d) : ∃ m : Nat, m < xs.length ∧ lastO xs z e d = (m : Int) := by
  have := lastT_rng xs z e d xs.length
  unfold lastO at *
  exact ⟨(lastT xs z e d xs.length).toNat, by omega, by omega⟩
theorem sayL_nat {xs : List Opinion} {z d : Int} {e : ByteArray} {m : Nat} (hm : m < xs.length) (h : lastO xs z e d = (m : Int)) : sayL xs z e d = xs[m].says := by
  unfold lastO at h
  unfold sayL sayT
  rw [h, if_neg (by omega), saysO_nat hm]
theorem sayL_neg {xs : List Opinion} {z d : Int} {e : ByteArray} (h : ¬ 0 ≤ lastO xs z e d) : sayL xs z e d = 0 := by
  unfold lastO at h
  unfold sayL sayT
  rw [if_pos (by omega)]
theorem bothP_mem {xs : List Opinion} {z d : Int} {a b : ByteArray} (h : bothP xs a b d z = true) : memT xs xs.length z = true := by
  have h0 : 0 ≤ lastO xs z a d := by
    by_cases h1 : 0 ≤ lastO xs z a d
    · exact h1
    · unfold bothP at h; rw [sayL_neg h1] at h; simp at h
  obtain ⟨m, hm, he⟩ := lastO_nat h0
  have hp := lastT_at xs z a d xs.length m he
  unfold lastP at hp
  rw [standP_val hm] at hp
  simp only [Bool.and_eq_true, decide_eq_true_eq] at hp
  unfold memT
  rw [List.take_length, List.any_eq_true]
  exact ⟨xs[m], List.getElem_mem hm, decide_eq_true hp.1.1⟩
theorem item_rng {xs : List Opinion} (hg : goodO xs = true) {m : Nat} (hm : m < xs.length) : 1 ≤ xs[m].item ∧ xs[m].item ≤ 999 := by
  have := goodO_at hg hm
  rw [okO_val hm] at this
  simp only [Bool.and_eq_true, Opinion.base, inR_iff] at this
  exact this.1.1.1.1.1.1.1
set_option maxRecDepth 100000 in
set_option maxHeartbeats 1600000 in
theorem specAgreeShare_c (xs : List Opinion) (A : Option Addr) (c : Nat) (a b : ByteArray) (d : Int) (w : World) (hr : Rd encOpinion 5 w.heap.size w A xs) (hn : xs.length ≤ 1048576) (hw : ∀ x ∈ xs, x.expert.size ≤ 9223372036854775807) (hsa : a.size ≤ 9223372036854775807) (hsb : b.size ≤ 9223372036854775807) (hd : -9223372036854775808 ≤ d ∧ d ≤ 9223372036854775807) :
    Calls Tryz.prog 16 #[.slice A xs.length c, .string a, .string b, .int .i64 d] w (Ret (.tuple #[.int .i64 (agS xs a b d), .int .i64 (agN xs a b d), .bool (agB xs a b d)]) w) := by
  have HW := Lib.hid hw
  clear hw
  by_cases hF : goodO xs = false
  · go_enter Tryz.func16, Tryz.ntmps16
    have hbg := Below.refl w.heap.size w
    go_wp2_with fail
    refine (l17Good_c xs _ _ _ (hr.go hbg) hn HW.out).mono ?_
    rintro e wg0 ⟨rfl, hb0⟩
    have hbg := below_via hbg hb0
    go_wp2_with fail
    go_returns
    have HT := (show agB xs a b d = false by simp only [agB, hF, Bool.and_false, Bool.false_and])
    exact ⟨ret3 (vi (by simp [agS, HT])) (vi (by simp [agN, HT])) (vb HT.symm), hbg⟩
  have G0 : goodO xs = true := by simpa using hF
  clear hF
  by_cases hF : isW a = false
  · go_enter Tryz.func16, Tryz.ntmps16
    have hbg := Below.refl w.heap.size w
    go_wp2_with fail
    refine (l17Good_c xs _ _ _ (hr.go hbg) hn HW.out).mono ?_
    rintro e wg0 ⟨rfl, hb0⟩
    have hbg := below_via hbg hb0
    go_wp2_with fail
    refine (l2Word_c _ _ hsa).mono ?_
    rintro e wp1 ⟨rfl, rfl⟩
    go_wp2_with fail
    go_returns
    have HT := (show agB xs a b d = false by simp only [agB, hF, Bool.and_false, Bool.false_and])
    exact ⟨ret3 (vi (by simp [agS, HT])) (vi (by simp [agN, HT])) (vb HT.symm), hbg⟩
  have G1 : isW a = true := by simpa using hF
  clear hF
  by_cases hF : isW b = false
  · go_enter Tryz.func16, Tryz.ntmps16
    have hbg := Below.refl w.heap.size w
    go_wp2_with fail
    refine (l17Good_c xs _ _ _ (hr.go hbg) hn HW.out).mono ?_
    rintro e wg0 ⟨rfl, hb0⟩
    have hbg := below_via hbg hb0
    go_wp2_with fail
    refine (l2Word_c _ _ hsa).mono ?_
    rintro e wp1 ⟨rfl, rfl⟩
    go_wp2_with fail
    refine (l2Word_c _ _ hsb).mono ?_
    rintro e wp2 ⟨rfl, rfl⟩
    go_wp2_with fail
    go_returns
    have HT := (show agB xs a b d = false by simp only [agB, hF, Bool.and_false, Bool.false_and])
    exact ⟨ret3 (vi (by simp [agS, HT])) (vi (by simp [agN, HT])) (vb HT.symm), hbg⟩
  have G2 : isW b = true := by simpa using hF
  clear hF
  by_cases hF : decide (a ≠ b) = false
  · have hE : (a.toList == b.toList) = true := by rw [toList_beq]; simpa using hF
    go_enter Tryz.func16, Tryz.ntmps16
    have hbg := Below.refl w.heap.size w
    go_wp2_with fail
    refine (l17Good_c xs _ _ _ (hr.go hbg) hn HW.out).mono ?_
    rintro e wg0 ⟨rfl, hb0⟩
    have hbg := below_via hbg hb0
    go_wp2_with fail
    refine (l2Word_c _ _ hsa).mono ?_
    rintro e wp1 ⟨rfl, rfl⟩
    go_wp2_with fail
    refine (l2Word_c _ _ hsb).mono ?_
    rintro e wp2 ⟨rfl, rfl⟩
    go_wp2_with fail
    go_returns
    have HT := (show agB xs a b d = false by simp only [agB, hF, Bool.and_false, Bool.false_and])
    exact ⟨ret3 (vi (by simp [agS, HT])) (vi (by simp [agN, HT])) (vb HT.symm), hbg⟩
  have G3 : decide (a ≠ b) = true := by simpa using hF
  clear hF
  by_cases hF : inR d 0 4000 = false
  · have hE : (a.toList == b.toList) = false := by rw [toList_beq]; simpa using G3
    go_enter Tryz.func16, Tryz.ntmps16
    have hbg := Below.refl w.heap.size w
    go_wp2_with fail
    refine (l17Good_c xs _ _ _ (hr.go hbg) hn HW.out).mono ?_
    rintro e wg0 ⟨rfl, hb0⟩
    have hbg := below_via hbg hb0
    go_wp2_with fail
    refine (l2Word_c _ _ hsa).mono ?_
    rintro e wp1 ⟨rfl, rfl⟩
    go_wp2_with fail
    refine (l2Word_c _ _ hsb).mono ?_
    rintro e wp2 ⟨rfl, rfl⟩
    go_wp2_with fail
    refine (l2Day_c _ _).mono ?_
    rintro e wp4 ⟨rfl, rfl⟩
    go_wp2_with fail
    go_returns
    have HT := (show agB xs a b d = false by simp only [agB, hF, Bool.and_false, Bool.false_and])
    exact ⟨ret3 (vi (by simp [agS, HT])) (vi (by simp [agN, HT])) (vb HT.symm), hbg⟩
  have G4 : inR d 0 4000 = true := by simpa using hF
  clear hF
  have hE : (a.toList == b.toList) = false := by rw [toList_beq]; simpa using G3
  go_enter Tryz.func16, Tryz.ntmps16
  have hbg := Below.refl w.heap.size w
  go_wp2_with fail
  refine (l17Good_c xs _ _ _ (hr.go hbg) hn HW.out).mono ?_
  rintro e wg0 ⟨rfl, hb0⟩
  have hbg := below_via hbg hb0
  go_wp2_with fail
  refine (l2Word_c _ _ hsa).mono ?_
  rintro e wp1 ⟨rfl, rfl⟩
  go_wp2_with fail
  refine (l2Word_c _ _ hsb).mono ?_
  rintro e wp2 ⟨rfl, rfl⟩
  go_wp2_with fail
  refine (l2Day_c _ _).mono ?_
  rintro e wp4 ⟨rfl, rfl⟩
  have HT := Lib.hid (show agB xs a b d = true by simp only [agB, G0, G1, G2, G3, G4]; rfl)
  have HS := Lib.hid (show agS xs a b d = cT (sameP xs a b d) xs xs.length by unfold agS; rw [if_pos HT.out, cT_all (fun z h => bothP_mem (by unfold sameP at h; simp only [Bool.and_eq_true] at h; exact h.1))])
  have HN := Lib.hid (show agN xs a b d = cT (bothP xs a b d) xs xs.length by unfold agN; rw [if_pos HT.out, cT_all (fun z h => bothP_mem h)])
  have HG := Lib.hid G0
  have hlen := goodO_len G0
  go_wp2_with fail
  clear G0 G1 G2 G3 G4 hE
  go_loopw [11, 12, 13, 14] (fun u v s i wr => ∃ (k : Nat) (ys : List Int), k ≤ xs.length ∧ i = .int .i64 k ∧ u = .int .i64 (cT (sameP xs a b d) xs k) ∧ v = .int .i64 (cT (bothP xs a b d) xs k) ∧ ys.length ≤ k ∧ Hid (∀ y, y ∈ ys ↔ memT xs k y = true) ∧ Out (Value.int .i64) 3 w.heap.size s ys wr ∧ Below w.heap.size w wr) (fun _ _ _ i _ => xs.length - (intOf i).toNat)
  case atStart => exact ⟨0, [], Nat.zero_le _, rfl, by rw [cT_0], by rw [cT_0], Nat.le_refl _, Lib.hid (fun y => by simp [memT]), Out.empty _ hbg.size, below_via hbg (by go_grown)⟩
  case round =>
    obtain ⟨k, ys, hk, rfl, rfl, rfl, hyl, hmem, ho, hb⟩ := hrel
    obtain ⟨As, ca, rfl, hOs⟩ := ho.own
    have hOr : Rd encI 1 wr.heap.size wr As ys := hOs.rd
    obtain ⟨cs, hcs⟩ : ∃ cs, cT (sameP xs a b d) xs k = cs := ⟨_, rfl⟩
    obtain ⟨cb, hcb⟩ : ∃ cb, cT (bothP xs a b d) xs k = cb := ⟨_, rfl⟩
    have r1 := cnt_rng (fun z => memT xs k z && sameP xs a b d z) 999
    have r2 := cnt_rng (fun z => memT xs k z && bothP xs a b d z) 999
    rw [show cntI (fun z => memT xs k z && sameP xs a b d z) 999 = cs from hcs] at r1
    rw [show cntI (fun z => memT xs k z && bothP xs a b d z) 999 = cb from hcb] at r2
    rw [hcs, hcb]
    have HCS := Lib.hid hcs
    have HCB := Lib.hid hcb
    clear hcs hcb
    have hbz := hb.size
    by_cases hlt : k < xs.length
    · obtain ⟨bk, off, rfl, hbs, d0, d1, d2, d3, d4⟩ := (hr.below hb).atOpinion hlt
      have hw1 : IntKind.i64.wrap (cs + 1) = cs + 1 := IntWalk.i64_in _ (by omega)
      have hw2 : IntKind.i64.wrap (cb + 1) = cb + 1 := IntWalk.i64_in _ (by omega)
      have HD := Lib.hid (show decide (xs[k].item ∈ ys) = memT xs k xs[k].item by
        cases h : memT xs k xs[k].item with
        | true => exact decide_eq_true ((hmem.out _).2 h)
        | false => exact decide_eq_false (fun h2 => by rw [(hmem.out _).1 h2] at h; cases h))
      have HX := Lib.hid (fun z => memT_next hlt z)
      cases hm : memT xs k xs[k].item with
      | true =>
        have HS1 := Lib.hid (cT_in (p := sameP xs a b d) hlt hm)
        have HB1 := Lib.hid (cT_in (p := bothP xs a b d) hlt hm)
        have HM := Lib.hid (show ∀ y, y ∈ ys ↔ memT xs (k + 1) y = true from fun y => by
          rw [HX.out, hmem.out y]
          by_cases e : xs[k].item = y
          · subst e; simp [hm]
          · simp [e])
        rw [hm] at HD
        clear hm
        go_wp2_with (go_at_call 44; refine (l1Has_c ys _ _ _ _ hOr (by omega)).mono ?_; rw [HD.out]; rintro _ _ ⟨rfl, rfl⟩)
        go_roundw
        case rel => exact ⟨k + 1, ys, by omega, by go_num, by rw [HS1.out, HCS.out], by rw [HB1.out, HCB.out], by omega, HM, ho, hb⟩
        case measure => simp [intOf]; omega
      | false =>
        have HM := Lib.hid (show ∀ y, y ∈ ys ++ [xs[k].item] ↔ memT xs (k + 1) y = true from fun y => by
          rw [HX.out, List.mem_append, hmem.out y, Bool.or_eq_true, decide_eq_true_eq, List.mem_singleton]
          exact ⟨fun h => h.imp id Eq.symm, fun h => h.imp id Eq.symm⟩)
        have HI := Lib.hid (item_rng HG.out hlt)
        have HS1 := Lib.hid (fun h => cT_yes (p := sameP xs a b d) hlt hm h HI.out.1 HI.out.2)
        have HS0 := Lib.hid (fun h => cT_no (p := sameP xs a b d) hlt h)
        have HB1 := Lib.hid (fun h => cT_yes (p := bothP xs a b d) hlt hm h HI.out.1 HI.out.2)
        have HB0 := Lib.hid (fun h => cT_no (p := bothP xs a b d) hlt h)
        rw [hm] at HD
        clear hm
        go_upto_region 10 with (first | (go_at_call 44; refine (l1Has_c ys _ _ _ _ hOr (by omega)).mono ?_; rw [HD.out]; rintro _ _ ⟨rfl, rfl⟩) | (at_builtin; refine wpList_push rfl _ _ _ rfl 3 (.int .i64 0) 8 Tryz.underlying29 infoI rfl xs[k].item rfl ho _ rfl (by simp) rfl (by omega) (by omega) (by omega) ?_; intro v1 w1 hown1 hbel1))
        have hbW := hb.trans hbel1
        clear d0 d1 d2 d3 d4
        obtain ⟨b', off', hA, hbs', d0, d1, d2, d3, d4⟩ := (hr.below hbW).atOpinion hlt
        injection hA with hA; injection hA with hA1 hA2
        subst hA1 hA2
        clear hbs'
        have hbw : bk < w1.heap.size := Nat.lt_of_lt_of_le hbs hbW.size
        have hov := over_cell w1
        obtain ⟨pa, hpa⟩ : ∃ pa, lastO xs xs[k].item a d = pa := ⟨_, rfl⟩
        obtain ⟨pb, hpb⟩ : ∃ pb, lastO xs xs[k].item b d = pb := ⟨_, rfl⟩
        have HC : Hid (∀ (e : ByteArray) (x : World), Calls Tryz.prog 45 #[.slice (some ⟨bk, off, none⟩) xs.length c, .int .i64 xs[k].item, .string e, .int .i64 d] (over w1 x) (Pure (.int .i64 (lastO xs xs[k].item e d)) (over w1 x))) := Lib.hid (fun e x => l17Last_c xs _ _ _ e d _ (hr.go (below_via hbW (over_below w1 x))) hn HG.out)
        have HPa := Lib.hid hpa
        have HPb := Lib.hid hpb
        clear hpa hpb
        have hk0 : (0 : Int) ≤ (k : Int) := by omega
        have hk1 : (k : Int) < (xs.length : Int) := by omega
        refine wp_region_over (by kernel_rfl) (by kernel_rfl) ?_
        repeat (go_big_quiet_step (((go_at_call 45; exact Calls.over_pure (HC.out _ _)))))
        refine wpQuiet_nil ?_
        intro _ hwx1
        obtain ⟨x1, hwx1⟩ := hwx1
        subst hwx1
        rw [HPa.out, HPb.out]
        obtain ⟨W2, hW2⟩ : ∃ W2, over w1 x1 = W2 := ⟨_, rfl⟩
        have hb2 := over_below w1 x1
        rw [hW2] at hb2 ⊢
        clear hW2 hov d0 d1 d2 d3 d4
        have hbW2 := below_via hbW hb2
        have hown2 := hown1.below hb2
        by_cases h1 : 0 ≤ pa
        · have h1d : decide (0 ≤ pa) = true := decide_eq_true h1
          obtain ⟨ma, hma, hla⟩ := lastO_nat (xs := xs) (z := xs[k].item) (e := a) (d := d) (by rw [HPa.out]; exact h1)
          have HLa := Lib.hid (sayL_nat hma hla)
          have hla := HPa.out.symm.trans hla
          by_cases h2 : 0 ≤ pb
          · have h2d : decide (0 ≤ pb) = true := decide_eq_true h2
            obtain ⟨mb, hmb, hlb⟩ := lastO_nat (xs := xs) (z := xs[k].item) (e := b) (d := d) (by rw [HPb.out]; exact h2)
            have HLb := Lib.hid (sayL_nat hmb hlb)
            have hlb := HPb.out.symm.trans hlb
            subst hla hlb
            have pos1 := says_pos HG.out hma
            have pos2 := says_pos HG.out hmb
            have HBv := Lib.hid (show bothP xs a b d xs[k].item = true by unfold bothP; rw [HLa.out, HLb.out, decide_eq_true (by omega), decide_eq_true (by omega)]; rfl)
            have HSv := Lib.hid (show sameP xs a b d xs[k].item = decide (xs[ma].says = xs[mb].says) by unfold sameP; rw [HBv.out, HLa.out, HLb.out, Bool.true_and])
            have HB := Lib.hid (HB1.out HBv.out)
            obtain ⟨b1, off1, hA, _, e0, e1, e2, e3, e4⟩ := (hr.below hbW2).atOpinion hma
            injection hA with hA; injection hA with hA1 hA2
            subst hA1 hA2
            obtain ⟨b1, off1, hA, _, f0, f1, f2, f3, f4⟩ := (hr.below hbW2).atOpinion hmb
            injection hA with hA; injection hA with hA1 hA2
            subst hA1 hA2
            clear e0 e1 e2 e4 f0 f1 f2 f4
            have hbw2 : bk < W2.heap.size := Nat.lt_of_lt_of_le hbw hb2.size
            have hov := over_cell W2
            have hm1 : (ma : Int) < (xs.length : Int) := by omega
            have hm2 : (mb : Int) < (xs.length : Int) := by omega
            generalize hsa1 : xs[ma].says = sa at e3 HSv
            generalize hsb1 : xs[mb].says = sb at f3 HSv
            clear hsa1 hsb1 pos1 pos2
            by_cases h3 : sa = sb
            · have h3' : (sa == sb) = true := by simpa using h3
              have HS := Lib.hid (HS1.out (by rw [HSv.out, decide_eq_true h3]))
              clear h3
              go_wp2_with fail
              refine wp_region_over (by kernel_rfl) (by kernel_rfl) ?_
              repeat (go_big_quiet_step (fail))
              refine wpQuiet_nil ?_
              intro _ hwx1
              obtain ⟨x1, hwx1⟩ := hwx1
              subst hwx1
              go_wp2_with fail
              go_roundw
              case rel => exact ⟨k + 1, _, by omega, by go_num, by rw [HS.out, HCS.out], by rw [HB.out, HCB.out], by simp; omega, HM, hown2.below (over_below W2 x1), below_via hbW2 (over_below W2 x1)⟩
              case measure => simp [intOf]; omega
            · have h3' : (sa == sb) = false := by simpa using h3
              have HS := Lib.hid (HS0.out (by rw [HSv.out, decide_eq_false h3]))
              clear h3
              go_wp2_with fail
              refine wp_region_over (by kernel_rfl) (by kernel_rfl) ?_
              repeat (go_big_quiet_step (fail))
              refine wpQuiet_nil ?_
              intro _ hwx1
              obtain ⟨x1, hwx1⟩ := hwx1
              subst hwx1
              go_wp2_with fail
              go_roundw
              case rel => exact ⟨k + 1, _, by omega, by go_num, by rw [HS.out, HCS.out], by rw [HB.out, HCB.out], by simp; omega, HM, hown2.below (over_below W2 x1), below_via hbW2 (over_below W2 x1)⟩
              case measure => simp [intOf]; omega
          · have h2d : decide (0 ≤ pb) = false := decide_eq_false h2
            have hz := sayL_neg (xs := xs) (z := xs[k].item) (e := b) (d := d) (by rw [HPb.out]; exact h2)
            have HBv := Lib.hid (show bothP xs a b d xs[k].item = false by unfold bothP; rw [hz]; simp)
            have HB := Lib.hid (HB0.out HBv.out)
            have HS := Lib.hid (HS0.out (by unfold sameP; rw [HBv.out, Bool.false_and]))
            clear h2 hla hz
            go_wp2_with fail
            go_roundw
            case rel => exact ⟨k + 1, _, by omega, by go_num, by rw [HS.out, HCS.out], by rw [HB.out, HCB.out], by simp; omega, HM, hown2, hbW2⟩
            case measure => simp [intOf]; omega
        · have h1d : decide (0 ≤ pa) = false := decide_eq_false h1
          have hz := sayL_neg (xs := xs) (z := xs[k].item) (e := a) (d := d) (by rw [HPa.out]; exact h1)
          have HBv := Lib.hid (show bothP xs a b d xs[k].item = false by unfold bothP; rw [hz]; simp)
          have HB := Lib.hid (HB0.out HBv.out)
          have HS := Lib.hid (HS0.out (by unfold sameP; rw [HBv.out, Bool.false_and]))
          clear h1 hz
          go_wp2_with fail
          go_roundw
          case rel => exact ⟨k + 1, _, by omega, by go_num, by rw [HS.out, HCS.out], by rw [HB.out, HCB.out], by simp; omega, HM, hown2, hbW2⟩
          case measure => simp [intOf]; omega
    · have hke : k = xs.length := by omega
      subst hke
      have HS := Lib.hid (HS.out.trans HCS.out)
      have HN := Lib.hid (HN.out.trans HCB.out)
      go_wp2_with fail
      go_returns
      exact ⟨ret3 (vi HS.out.symm) (vi HN.out.symm) (vb HT.out.symm), hb⟩
end Go.Proofs.YtpnkeaeikcobfaaGreatDoor

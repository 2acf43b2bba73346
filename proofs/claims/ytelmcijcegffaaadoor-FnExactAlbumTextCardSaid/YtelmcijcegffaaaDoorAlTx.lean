/- AlbumText: the contracts of the program and the reference. No condition but the sizes and that the table of powers lies as it is listed. -/
import Derived.Test.YtelmcijcegffaaaDoorTxOdds
import Derived.Test.YtelmcijcegffaaaDoorAlTop
import Derived.Shelf.Strings.Repeat
namespace Go.Proofs.YtelmcijcegffaaaDoor
set_option linter.unusedVariables false
set_option linter.unusedSimpArgs false
open Go.RowKit Go.Shelf
attribute [local irreducible] wpQuiet
def laysRep_ren : Go.Shelf.Ren := ⟨fun | 105 => 33 | 212 => 53 | 99 => 54 | 165 => 55 | 166 => 56 | 170 => 57 | 169 => 58 | 263 => 64 | 264 => 65 | 206 => 66 | 240 => 67 | 241 => 68 | 276 => 73 | 277 => 74 | n => n, fun | 9 => 9 | 3 => 3 | 4 => 4 | 20 => 20 | 0 => 0 | 46 => 72 | 109 => 73 | 5 => 5 | 72 => 79 | 76 => 83 | 51 => 92 | 146 => 93 | 53 => 95 | 148 => 96 | 70 => 76 | 37 => 77 | 75 => 82 | 127 => 98 | 164 => 104 | 80 => 86 | n => n, fun | n => n⟩
theorem laysRep : Go.Proofs.Lays.n105 Tryd.prog laysRep_ren := {
  mixed := by kernel_rfl
  f99 := Tryd.func54.trans (congrArg some (by kernel_rfl))
  f105 := Tryd.func33.trans (congrArg some (by kernel_rfl))
  f165 := Tryd.func55.trans (congrArg some (by kernel_rfl))
  f166 := Tryd.func56.trans (congrArg some (by kernel_rfl))
  f169 := Tryd.func58.trans (congrArg some (by kernel_rfl))
  f170 := Tryd.func57.trans (congrArg some (by kernel_rfl))
  f206 := Tryd.func66.trans (congrArg some (by kernel_rfl))
  f212 := Tryd.func53.trans (congrArg some (by kernel_rfl))
  f240 := Tryd.func67.trans (congrArg some (by kernel_rfl))
  f241 := Tryd.func68.trans (congrArg some (by kernel_rfl))
  f263 := Tryd.func64.trans (congrArg some (by kernel_rfl))
  f264 := Tryd.func65.trans (congrArg some (by kernel_rfl))
  f276 := Tryd.func73.trans (congrArg some (by kernel_rfl))
  f277 := Tryd.func74.trans (congrArg some (by kernel_rfl))
  t0 := Tryd.underlying0
  a0 := Tryd.isAgg0
  z0 := Tryd.sizeOf0
  v0 := Tryd.zeroValue0
  t3 := Tryd.underlying3
  a3 := Tryd.isAgg3
  z3 := Tryd.sizeOf3
  v3 := Tryd.zeroValue3
  t4 := Tryd.underlying4
  a4 := Tryd.isAgg4
  z4 := Tryd.sizeOf4
  v4 := Tryd.zeroValue4
  t5 := Tryd.underlying5
  a5 := Tryd.isAgg5
  z5 := Tryd.sizeOf5
  v5 := Tryd.zeroValue5
  t9 := Tryd.underlying9
  a9 := Tryd.isAgg9
  z9 := Tryd.sizeOf9
  v9 := Tryd.zeroValue9
  t20 := Tryd.underlying20
  a20 := Tryd.isAgg20
  z20 := Tryd.sizeOf20
  v20 := Tryd.zeroValue20
  t37 := Tryd.underlying77
  a37 := Tryd.isAgg77
  z37 := Tryd.sizeOf77
  v37 := Tryd.zeroValue77
  t46 := Tryd.underlying72
  a46 := Tryd.isAgg72
  z46 := Tryd.sizeOf72
  v46 := Tryd.zeroValue72
  t51 := Tryd.underlying92
  a51 := Tryd.isAgg92
  z51 := Tryd.sizeOf92
  v51 := Tryd.zeroValue92
  t53 := Tryd.underlying95
  a53 := Tryd.isAgg95
  z53 := Tryd.sizeOf95
  v53 := Tryd.zeroValue95
  t70 := Tryd.underlying76
  a70 := Tryd.isAgg76
  z70 := Tryd.sizeOf76
  v70 := Tryd.zeroValue76
  t72 := Tryd.underlying79
  a72 := Tryd.isAgg79
  z72 := Tryd.sizeOf79
  v72 := Tryd.zeroValue79
  t75 := Tryd.underlying82
  a75 := Tryd.isAgg82
  z75 := Tryd.sizeOf82
  v75 := Tryd.zeroValue82
  t76 := Tryd.underlying83
  a76 := Tryd.isAgg83
  z76 := Tryd.sizeOf83
  v76 := Tryd.zeroValue83
  t109 := Tryd.underlying73
  a109 := Tryd.isAgg73
  z109 := Tryd.sizeOf73
  v109 := Tryd.zeroValue73
  t127 := Tryd.underlying98
  a127 := Tryd.isAgg98
  z127 := Tryd.sizeOf98
  v127 := Tryd.zeroValue98
  t146 := Tryd.underlying93
  a146 := Tryd.isAgg93
  z146 := Tryd.sizeOf93
  v146 := Tryd.zeroValue93
  t148 := Tryd.underlying96
  a148 := Tryd.isAgg96
  z148 := Tryd.sizeOf96
  v148 := Tryd.zeroValue96
  t164 := Tryd.underlying104
  a164 := Tryd.isAgg104
  z164 := Tryd.sizeOf104
  v164 := Tryd.zeroValue104 }
theorem extraRep : Builder.Extra Tryd.prog laysRep_ren := {
  sizeBuilder := by kernel_rfl
  liesBuilder := by kernel_rfl
  t5 := Tryd.underlying5
  a5 := Tryd.isAgg5
  z5 := Tryd.sizeOf5
  v5 := Tryd.zeroValue5
  infoByte := by kernel_rfl
  cellsByte := by kernel_rfl
  sizeByte := by kernel_rfl
  neB5 := by decide }
def dots (n : Nat) : ByteArray := ⟨(List.replicate n 46).toArray⟩
theorem dots_size (n : Nat) : (dots n).size = n := by
  show (List.replicate n (46 : UInt8)).toArray.size = n
  simp
theorem dots_s (n : Nat) : dots n ++ ⟨#[46]⟩ = dots (n + 1) := by
  apply ByteArray.ext
  rw [ByteArray.data_append]
  show (List.replicate n (46 : UInt8)).toArray ++ #[46] = (List.replicate (n + 1) 46).toArray
  apply Array.ext'
  simp [List.replicate_succ']
theorem dots_0 : dots 0 = ⟨#[]⟩ := rfl
theorem repeat_c (n : Nat) (w : World) (hn : n ≤ 140737488355328) : Calls Tryd.prog 33 #[.string ⟨#[46]⟩, .int .i64 n] w (Ret (.string (dots n)) w) := by
  refine (Any.strings_Repeat laysRep extraRep ⟨#[46]⟩ n w (by omega) (by show 1 * n ≤ _; omega)).mono ?_
  rintro e w2 ⟨rfl, hb⟩
  refine ⟨?_, hb⟩
  have h : Lib.repeatL [46] n = List.replicate n 46 := by
    have := Lib.repeatL_replicate 46 1 n
    simpa using this
  show Ending.returned (.string ⟨(Lib.repeatL [46] n).toArray⟩) = _
  rw [h]
  rfl
def pgT (l : Nat) (p : Page) : ByteArray := dots l ++ p.title ++ ⟨#[40]⟩ ++ numB (p.items.length : Int) ++ ⟨#[41, 59]⟩
def atA (xs : List Page) : Nat → ByteArray
  | 0 => ⟨#[]⟩
  | i + 1 => atA xs i ++ (match xs[i]? with | none => ⟨#[]⟩ | some p => pgT (levJ xs i) p)
theorem atA_s {xs : List Page} {i : Nat} (h : i < xs.length) : atA xs (i + 1) = atA xs i ++ pgT (levJ xs i) xs[i] := by
  simp [atA, h]
theorem app_size (a b : ByteArray) : (a ++ b).size = a.size + b.size := ByteArray.size_append
theorem good_title {xs : List Page} (hg : goodA xs = true) {k : Nat} (hk : k < xs.length) : xs[k].title.size ≤ 10 := by
  have h := goodA_at hg hk
  rw [okA_val hk] at h
  simp only [Bool.and_eq_true, Page.base, isW, decide_eq_true_eq] at h
  exact h.1.1.1.1.1.1.1.2.2
theorem atA_size {xs : List Page} (hg : goodA xs = true) : ∀ i, i ≤ xs.length → (atA xs i).size ≤ 60 * i
  | 0, _ => Nat.le_refl _
  | i + 1, h => by
    have h1 := atA_size hg i (by omega)
    have h2 := levJ_le xs i
    have h3 := good_title hg (show i < xs.length by omega)
    have h4 := goodA_len hg
    have h5 := (good_base hg (show i < xs.length by omega)).2.2.2.1
    have h6 := numB_size (n := (xs[i]'(by omega)).items.length) (by omega)
    rw [atA_s (show i < xs.length by omega), pgT]
    simp only [app_size, dots_size]
    have e1 : (⟨#[40]⟩ : ByteArray).size = 1 := rfl
    have e2 : (⟨#[41, 59]⟩ : ByteArray).size = 2 := rfl
    rw [e1, e2]
    omega
def txV (xs : List Page) : ByteArray := if goodA xs = true then atA xs xs.length else ⟨#[]⟩
theorem txV_no {xs : List Page} (h : goodA xs = false) : txV xs = ⟨#[]⟩ := by simp [txV, h]
theorem txV_yes {xs : List Page} (h : goodA xs = true) : txV xs = atA xs xs.length := by simp [txV, h]
theorem assoc_i (s d t a n b : ByteArray) : s ++ (d ++ t ++ a ++ n ++ b) = s ++ d ++ t ++ a ++ n ++ b := by simp only [ByteArray.append_assoc]
set_option maxRecDepth 100000 in
set_option maxHeartbeats 1600000 in
theorem implAlbumText_c (xs : List Page) (A : Option Addr) (c : Nat) (w : World) (hr : RdP w.heap.size w A xs) (hcap : xs.length ≤ c) (hn : xs.length ≤ 1048576) (hs : sumI xs ≤ 1048576) (hw : ∀ x ∈ xs, x.title.size ≤ 9223372036854775807 ∧ x.items.length ≤ 9223372036854775807 ∧ ∀ z ∈ x.items, Fits z) (ht : Pow w) :
    Calls Tryd.prog 13 #[.slice A xs.length c] w (Ret (.tuple #[.string (txV xs), .bool (goodA xs)]) w) := by
  have HW := Lib.hid hw
  clear hw
  have HT := Lib.hid ht
  clear ht
  by_cases hF : goodA xs = false
  · go_enter Tryd.func13, Tryd.ntmps13
    have hbg := Below.refl w.heap.size w
    go_wp2_with fail
    refine (isAlbum_c xs _ _ _ (hr.go hbg) hcap hn hs HW.out).mono ?_
    rintro e wg0 ⟨rfl, hb0⟩
    have hbg := below_via hbg hb0
    go_wp2_with fail
    go_returns
    exact ⟨ret_tb (txV_no hF).symm hF.symm, hbg⟩
  have G0 : goodA xs = true := by simpa using hF
  clear hF
  go_enter Tryd.func13, Tryd.ntmps13
  have hbg := Below.refl w.heap.size w
  go_wp2_with fail
  refine (isAlbum_c xs _ _ _ (hr.go hbg) hcap hn hs HW.out).mono ?_
  rintro e wg0 ⟨rfl, hb0⟩
  have hbg := below_via hbg hb0
  have HG := Lib.hid G0
  have hlen := goodA_len G0
  have HV := Lib.hid (txV_yes G0)
  go_wp2_with fail
  clear G0
  go_loopw [4, 12] (fun u i wr => ∃ k : Nat, k ≤ xs.length ∧ i = .int .i64 k ∧ u = .string (atA xs k) ∧ Below w.heap.size w wr) (fun _ i _ => xs.length - (intOf i).toNat)
  case atStart => exact ⟨0, Nat.zero_le _, rfl, rfl, hbg⟩
  case round =>
    obtain ⟨k, hk, rfl, rfl, hb⟩ := hrel
    by_cases hlt : k < xs.length
    · obtain ⟨b, off, Ai, ci, rfl, hbs, d0, d1, d2, d3, hci, hri⟩ := (hr.below hb).page hlt
      have z1 := atA_size HG.out k hk
      have z2 := levJ_le xs k
      have z3 := good_title HG.out hlt
      have z5 := (good_base HG.out hlt).2.2.2.1
      have z6 := numB_size (n := xs[k].items.length) (by omega)
      have z7 := dots_size (levJ xs k)
      have HS := Lib.hid (show atA xs k ++ (dots (levJ xs k) ++ xs[k].title ++ ⟨#[40]⟩ ++ numB (xs[k].items.length : Int) ++ ⟨#[41, 59]⟩) = atA xs (k + 1) from (atA_s hlt).symm)
      generalize hE : atA xs (k + 1) = E at *
      generalize hS : atA xs k = S at *
      go_upto_region 7 with fail
      have hW := New.of wr [.int .i64 xs[k].id, .string xs[k].title, .int .i64 xs[k].under, .slice Ai xs[k].items.length ci] 56
      generalize wr.alloc (.cells #[.int .i64 xs[k].id, .string xs[k].title, .int .i64 xs[k].under, .slice Ai xs[k].items.length ci] 56) = W at *
      obtain ⟨hWb, hWl, hWc⟩ := hW
      have e0 := hWc 0 _ rfl
      have e1 := hWc 1 _ rfl
      have e3 := hWc 3 _ rfl
      have hbW := hb.trans (hWb.mono hb.size)
      clear hWc d0 d1 d2 d3 hri
      have H1 : Hid (∀ x : World, Calls Tryd.prog 34 #[.slice (some ⟨b, off, none⟩) xs.length c, .int .i64 xs[k].id] (over W x) (Ret (.int .i64 (levJ xs k : Int)) (over W x))) := Lib.hid (fun x => levelOf_c xs _ _ k _ (((hr.below hbW).more hbW.size).go (over_below W x)) HG.out hlt)
      have H2 : Hid (∀ x : World, Calls Tryd.prog 33 #[.string ⟨#[46]⟩, .int .i64 (levJ xs k : Int)] (over W x) (Ret (.string (dots (levJ xs k))) (over W x))) := Lib.hid (fun x => repeat_c _ _ (by omega))
      have H3 : Hid (∀ x : World, Calls Tryd.prog 26 #[.int .i64 (xs[k].items.length : Int)] (over W x) (Ret (.string (numB (xs[k].items.length : Int))) (over W x))) := Lib.hid (fun x => itoa_c _ _ ((HT.out.go hbW).go (over_below W x)) (by omega) (by omega))
      have hov := over_cell W
      obtain ⟨hp, hhp⟩ : ∃ hp, wr.heap.size = hp := ⟨_, rfl⟩
      have hwp : w.heap.size ≤ hp := by have := hb.size; omega
      rw [hhp] at hWl e0 e1 e3 ⊢
      clear hhp hWb hb
      refine wp_region_over (by kernel_rfl) (by kernel_rfl) ?_
      repeat (go_big_quiet_step (((first | (go_at_call 34; exact Calls.over_of (H1.out _)) | (go_at_call 33; exact Calls.over_of (H2.out _)) | (go_at_call 26; exact Calls.over_of (H3.out _))))))
      refine wpQuiet_nil ?_
      intro _ hwx1
      obtain ⟨x1, hwx1⟩ := hwx1
      subst hwx1
      go_wp2_with fail
      go_roundw
      case rel => exact ⟨k + 1, by omega, by go_num, by rw [HS.out, hE], hbW.trans ((over_below W x1).mono hbW.size)⟩
      case measure => simp [intOf]; omega
    · have hke : k = xs.length := by omega
      subst hke
      generalize hS : atA xs xs.length = S at *
      go_wp2_with fail
      go_returns
      exact ⟨ret_tb HV.out.symm HG.out.symm, hb⟩
set_option maxRecDepth 100000 in
set_option maxHeartbeats 1600000 in
theorem specAlbumText_c (xs : List Page) (A : Option Addr) (c : Nat) (w : World) (hr : RdP w.heap.size w A xs) (hcap : xs.length ≤ c) (hn : xs.length ≤ 1048576) (hs : sumI xs ≤ 1048576) (hw : ∀ x ∈ xs, x.title.size ≤ 9223372036854775807 ∧ x.items.length ≤ 9223372036854775807 ∧ ∀ z ∈ x.items, Fits z) :
    Calls Tryd.prog 11 #[.slice A xs.length c] w (Ret (.tuple #[.string (txV xs), .bool (goodA xs)]) w) := by
  have HW := Lib.hid hw
  clear hw
  by_cases hF : goodA xs = false
  · go_enter Tryd.func11, Tryd.ntmps11
    have hbg := Below.refl w.heap.size w
    go_wp2_with fail
    refine (l18Good_c xs _ _ _ (hr.go hbg) hcap hn hs HW.out).mono ?_
    rintro e wg0 ⟨rfl, hb0⟩
    have hbg := below_via hbg hb0
    go_wp2_with fail
    go_returns
    exact ⟨ret_tb (txV_no hF).symm hF.symm, hbg⟩
  have G0 : goodA xs = true := by simpa using hF
  clear hF
  go_enter Tryd.func11, Tryd.ntmps11
  have hbg := Below.refl w.heap.size w
  go_wp2_with fail
  refine (l18Good_c xs _ _ _ (hr.go hbg) hcap hn hs HW.out).mono ?_
  rintro e wg0 ⟨rfl, hb0⟩
  have hbg := below_via hbg hb0
  have HG := Lib.hid G0
  have hlen := goodA_len G0
  have HV := Lib.hid (txV_yes G0)
  go_wp2_with fail
  clear G0
  go_loopw [4, 5] (fun u i wr => ∃ k : Nat, k ≤ xs.length ∧ i = .int .i64 k ∧ u = .string (atA xs k) ∧ Below w.heap.size w wr) (fun _ i _ => xs.length - (intOf i).toNat)
  case atStart => exact ⟨0, Nat.zero_le _, rfl, rfl, hbg⟩
  case round =>
    obtain ⟨k, hk, rfl, rfl, hb⟩ := hrel
    by_cases hlt : k < xs.length
    · obtain ⟨b, off, Ai, ci, rfl, hbs, d0, d1, d2, d3, hci, hri⟩ := (hr.below hb).page hlt
      have z1 := atA_size HG.out k hk
      have z2 := levJ_le xs k
      have z3 := good_title HG.out hlt
      have z5 := (good_base HG.out hlt).2.2.2.1
      have z6 := numB_size (n := xs[k].items.length) (by omega)
      have HS := Lib.hid (show ∀ l, l = levJ xs k → atA xs k ++ dots l ++ xs[k].title ++ ⟨#[40]⟩ ++ numB (xs[k].items.length : Int) ++ ⟨#[41, 59]⟩ = atA xs (k + 1) from fun l hl => by subst hl; rw [atA_s hlt, pgT, assoc_i])
      generalize hE : atA xs (k + 1) = E at *
      generalize hS : atA xs k = S at *
      have h0 : (0 : Int) ≤ (k : Int) := by omega
      have h1 : (k : Int) < (xs.length : Int) := by omega
      have HL := Lib.hid (fun (v : World) (hv : Below w.heap.size w v) => l18Level_c xs (some ⟨b, off, none⟩) c k v ((hr.below hv).more hv.size) HG.out hlt)
      generalize levJ xs k = l at *
      go_wp2_with (go_at_call 30; refine (HL.out _ hb).mono ?_; rintro e w2 ⟨rfl, hb2⟩)
      clear d0 d1 d2 d3 hri
      have hbx := below_via hb hb2
      clear HL hb2 hb
      go_loopw [4, 6] (fun u i wr => ∃ m q : Nat, m + q = l ∧ i = .int .i64 q ∧ u = .string (S ++ dots m) ∧ Below w.heap.size w wr) (fun _ i _ => (intOf i).toNat)
      case atStart => exact ⟨0, l, by omega, rfl, by rw [dots_0]; exact congrArg _ (by simp [ByteArray.append_empty] : S = S ++ ByteArray.empty), hbx⟩
      case round =>
        obtain ⟨m, q, hmq, rfl, rfl, hb⟩ := hrel
        have z7 := dots_size m
        have z8 := app_size S (dots m)
        have HD := Lib.hid (show S ++ dots m ++ ⟨#[46]⟩ = S ++ dots (m + 1) by rw [ByteArray.append_assoc, dots_s])
        have HE := Lib.hid (fun (h : m = l) => HS.out m h)
        generalize hT : S ++ dots m = T at *
        by_cases hq : 0 < q
        · have hq1 : decide (0 < (q : Int)) = true := decide_eq_true (by omega)
          have hq2 : decide (0 < q) = true := decide_eq_true hq
          go_wp2_with fail
          go_roundw
          case rel => exact ⟨m + 1, q - 1, by omega, by go_num, by rw [HD.out], hb⟩
          case measure => simp [intOf]; omega
        · have hq1 : decide (0 < (q : Int)) = false := decide_eq_false (by omega)
          have hq2 : decide (0 < q) = false := decide_eq_false hq
          have HF := Lib.hid (HE.out (by omega))
          clear HE HD
          go_upto_region 11 with fail
          have hbw : b < wr.heap.size := Nat.lt_of_lt_of_le hbs hb.size
          obtain ⟨b', off', Aj, cj, hA, hbs', g0, g1, g2, g3, _⟩ := (hr.below hb).page hlt
          obtain ⟨rfl, rfl⟩ := addr_eq hA
          clear hA
          have H3 : Hid (∀ x : World, Calls Tryd.prog 20 #[.int .i64 (xs[k].items.length : Int)] (over wr x) (Ret (.string (numB (xs[k].items.length : Int))) (over wr x))) := Lib.hid (fun x => l1NumI_c _ (by omega) (by omega) _)
          have hov := over_cell wr
          refine wp_region_over (by kernel_rfl) (by kernel_rfl) ?_
          repeat (go_big_quiet_step (((go_at_call 20; exact Calls.over_of (H3.out _)))))
          refine wpQuiet_nil ?_
          intro _ hwx1
          obtain ⟨x1, hwx1⟩ := hwx1
          subst hwx1
          go_wp2_with fail
          go_roundw
          case rel => exact ⟨k + 1, by omega, by go_num, by rw [HF.out, hE], hb.trans ((over_below wr x1).mono hb.size)⟩
          case measure => simp [intOf]; omega
    · have hke : k = xs.length := by omega
      subst hke
      generalize hS : atA xs xs.length = S at *
      go_wp2_with fail
      go_returns
      exact ⟨ret_tb HV.out.symm HG.out.symm, hb⟩
end Go.Proofs.YtelmcijcegffaaaDoor

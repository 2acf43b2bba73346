/- The text of a mark: the function by which the laws write marks into texts. -/
import Derived.Test.YtlienlflapeghaaMark
import Derived.Laws.IdiomStrings
import Derived.Laws.Concat
import Derived.IntWalk
namespace Go.Proofs.Ytlienlflapeghaa
set_option linter.unusedVariables false
set_option linter.unusedSimpArgs false
open Go.RowKit
def dgb (m : Nat) : UInt8 := UInt8.ofNat (48 + m)
def dgs (k : Nat) (out : ByteArray) : ByteArray := if h : k = 0 then out else dgs (k / 10) (⟨#[dgb (k % 10)]⟩ ++ out)
termination_by k
decreasing_by omega
theorem dgs_zero (out : ByteArray) : dgs 0 out = out := by unfold dgs; simp
theorem dgs_pos (k : Nat) (out : ByteArray) (h : 0 < k) : dgs k out = dgs (k / 10) (⟨#[dgb (k % 10)]⟩ ++ out) := by
  conv => lhs; unfold dgs
  rw [dif_neg (by omega)]
def mtext (k : Int) : ByteArray := if k ≤ 0 then ⟨#[109, 48]⟩ else ⟨#[109]⟩ ++ dgs k.toNat ⟨#[]⟩
theorem digit_conv (W : World) (m : Nat) (hm : m < 10) : (convert 59 9 (.slice (some ⟨W.heap.size, 0, none⟩) 1 1)).run Try.prog (W.alloc (.cells #[.int .u8 (48 + (m : Int))] 5)) = .ok (.string ⟨#[dgb m]⟩) (W.alloc (.cells #[.int .u8 (48 + (m : Int))] 5)) := by
  have h := run_convert_bytes_back (P := Try.prog) (W.alloc (.cells #[.int .u8 (48 + (m : Int))] 5)) 59 9 5 ⟨W.heap.size, 0, none⟩ 1 [dgb m] Try.underlying59 Try.underlying5 Try.underlying9 (by
    intro j hj
    have hj0 : j = 0 := by simp at hj; omega
    subst hj0
    have ha : (⟨W.heap.size, 0, none⟩ : Addr).add 0 = ⟨W.heap.size, 0, none⟩ := rfl
    rw [ha, World.cell?_alloc_new]
    have h2 : ((dgb m).toNat : Int) = 48 + (m : Int) := by unfold dgb; rw [UInt8.toNat_ofNat_of_lt' (by show _ < 256; omega)]; omega
    simp only [List.getElem_cons_zero, h2]
    rfl)
  exact h
theorem ret_str {a b : ByteArray} (h : a = b) : Ending.returned (.string a) = .returned (.string b) := by rw [h]
set_option maxRecDepth 100000 in
set_option maxHeartbeats 400000 in
theorem markText_c (k : Int) (w : World) (h0 : 0 ≤ k) (h1 : k ≤ 1209511627776) : Calls Try.prog 25 #[.int .i64 k] w (Ret (.string (mtext k)) w) := by
  by_cases hz : k ≤ 0
  · have HV := Lib.hid (show mtext k = ⟨#[109, 48]⟩ by simp [mtext, hz])
    go_enter Try.func25, Try.ntmps25
    go_wp2_with fail
    go_returns
    exact ⟨ret_str HV.out.symm, Below.refl _ _⟩
  · have HV := Lib.hid (show mtext k = ⟨#[109]⟩ ++ dgs k.toNat ⟨#[]⟩ by simp [mtext, hz])
    go_enter Try.func25, Try.ntmps25
    go_wp2_with fail
    obtain ⟨k0, hk0⟩ : ∃ k0 : Nat, (k0 : Int) = k := ⟨k.toNat, by omega⟩
    have HK0 := Lib.hid (show k.toNat = k0 by omega)
    go_loopw [0, 3] (fun u v wr => ∃ (kk : Nat) (out : ByteArray), u = .int .i64 kk ∧ v = .string out ∧ dgs kk out = dgs k.toNat ⟨#[]⟩ ∧ kk ≤ 1209511627776 ∧ out.size + kk ≤ 1209511627776 ∧ Below w.heap.size w wr) (fun u _ _ => (intOf u).toNat)
    case atStart => exact ⟨k0, ⟨#[]⟩, by rw [hk0], rfl, by rw [HK0.out], by omega, by simp [ByteArray.size]; omega, Below.refl _ _⟩
    case round =>
      obtain ⟨kk, out, rfl, rfl, hd, hk1, hk2, hb⟩ := hrel
      have HD := Lib.hid hd
      clear hd hk0
      by_cases hp : 0 < kk
      · have hp' : (0 : Int) < kk := by omega
        obtain ⟨m, hm, hm9⟩ : ∃ m : Nat, (kk : Int) % 10 = (m : Int) ∧ m < 10 := ⟨kk % 10, by omega, by omega⟩
        have hm9' : (m : Int) < 10 := by omega
        have hm0 : (0 : Int) ≤ (m : Int) := by omega
        have hcv := fun (W : World) => digit_conv W m hm9
        have hsz : (ByteArray.mk #[dgb m]).size = 1 := rfl
        have hs1 : (ByteArray.mk #[dgb m] ++ out).size = 1 + out.size := by rw [ByteArray.size_append, hsz]
        have HS := Lib.hid hs1
        have HN := Lib.hid (show dgs kk out = dgs (kk / 10) (⟨#[dgb m]⟩ ++ out) by rw [dgs_pos kk out hp, show kk % 10 = m by omega])
        clear hs1
        have hdiv : ((kk : Int) / 10) = ((kk / 10 : Nat) : Int) := by omega
        have HV2 := Lib.hid hdiv
        clear hdiv
        go_wp2_with fail
        go_roundw
        case rel => exact ⟨kk / 10, ⟨#[dgb m]⟩ ++ out, vi (by omega), rfl, by rw [← HN.out, HD.out], by omega, by rw [HS.out]; omega, hb.trans ((Below.refl _ _).alloc hb.size _)⟩
        case measure => simp [intOf]; omega
      · have hkz : kk = 0 := by omega
        subst hkz
        have HR := Lib.hid (show mtext k = ⟨#[109]⟩ ++ out by rw [HV.out, ← HD.out, dgs_zero])
        go_wp2_with fail
        go_returns
        exact ⟨ret_str HR.out.symm, hb⟩
end Go.Proofs.Ytlienlflapeghaa

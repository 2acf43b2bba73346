/- How an argument that came in is opened: a slice of records into a list; a struct into its fields. Over any program. No condition of its own. -/
import Derived.Test.YtpnkeaeikcobfaaGreatDoorLib
import Derived.Deep.Slices
import Derived.Deep.Fields
import Derived.Lib.SmallJoins
import Derived.ChangeSame
import Derived.OpenShut
import Derived.ShutString
import Derived.ChangeOld
namespace Go.Proofs.YtpnkeaeikcobfaaGreatDoor
set_option linter.unusedVariables false
set_option linter.unusedSimpArgs false
open Go.RowKit Go.ChangeShapes Go.WideShapes Go.Deep

def Fits (a : Int) : Prop := -9223372036854775808 ≤ a ∧ a ≤ 9223372036854775807

section
variable {H : Type} {enc : TypeId × Value → H} {P : Program} {w : World} {base : Nat} {spare : Nat → Bool} {held : Bool}

theorem trod_fields {t : TypeId} {fs : Array Field} {fuel : Nat} {cs : List Value} {x : DataW H × List MemPlace} (hs : P.underlying t = some (.struct fs)) (hone : oneCellFields P fs = true) (hC : P.cellsOf t = fs.size)
    (h : DataW.trod enc P w base spare held fuel t cs = some x) :
    cs.length = fs.size ∧ ∀ (j : Nat) (f : Field), fs[j]? = some f → ∃ (v : Value) (n : Nat) (y : DataW H × List MemPlace), cs[j]? = some v ∧ DataW.trod enc P w base spare held n f.type [v] = some y := by
  obtain ⟨ys, n, _, _, hlen, hyl, hf⟩ := DataW.trod_struct hs h
  refine ⟨hlen.trans hC, fun j f hj => ?_⟩
  obtain ⟨ho, hk⟩ := hone_of hone j f hj
  have hjl : j < fs.size := (Array.getElem?_eq_some_iff.1 hj).1
  have hjc : j < cs.length := by rw [hlen, hC]; exact hjl
  have h1 := hf j f hj
  rw [ho, hk, List.drop_eq_getElem_cons hjc] at h1
  have hys : ys[j]? = some (ys[j]'(by omega)) := List.getElem?_eq_getElem (by omega)
  exact ⟨_, n, _, List.getElem?_eq_getElem hjc, h1.trans hys⟩

theorem int_el {t : TypeId} (ht : P.underlying t = some (.int .i64)) {n : Nat} {v : Value} {y : DataW H × List MemPlace} (h : DataW.trod enc P w base spare held n t [v] = some y) : ∃ a : Int, v = .int .i64 a ∧ Fits a := by
  obtain ⟨a, h1, _, hw⟩ := DataW.trod_int ht h
  simp only [List.cons.injEq, and_true] at h1
  refine ⟨a, h1, ?_⟩
  have h2 : (decide (IntKind.i64.min ≤ a) && decide (a ≤ IntKind.i64.max)) = true := hw
  have e1 : IntKind.i64.min = -9223372036854775808 := by decide
  have e2 : IntKind.i64.max = 9223372036854775807 := by decide
  rw [e1, e2] at h2
  simpa [Fits] using h2
theorem str_el {t : TypeId} (ht : P.underlying t = some .string) {n : Nat} {v : Value} {y : DataW H × List MemPlace} (h : DataW.trod enc P w base spare held n t [v] = some y) : ∃ s : ByteArray, v = .string s ∧ s.size ≤ maxLen := by
  obtain ⟨s, h1, _, hw⟩ := DataW.trod_string ht h
  simp only [List.cons.injEq, and_true] at h1
  exact ⟨s, h1, hw⟩
/-- A struct that came in by value. -/
theorem agg_open {r : Reach} {b0 : Nat} {t : TypeId} {fs : Array Field} {v : Value} {d : DataW H} {p : List MemPlace} (hs : P.underlying t = some (.struct fs)) (hv : Value.okWide P w r b0 t v) (h : DataW.Trod enc P w base spare held t v d p) :
    ∃ (cs : List Value) (n : Nat), v = .agg cs.toArray ∧ DataW.trod enc P w base spare held n t cs = some (d, p) := by
  obtain ⟨cs, rfl, _⟩ := okWide_struct hs hv
  obtain ⟨n, hn⟩ := h
  exact ⟨cs.toList, n, by simp, by simpa [Value.cells] using hn⟩

theorem rd_open {α : Type} [Inhabited α] {t e : TypeId} (k : Nat) (enc' : α → List Value) (Q : α → Prop) {fuel : Nat} {A : Option Addr} {len cap : Nat} {x : DataW H × List MemPlace} (hk : 0 < k)
    (ht : P.underlying t = some (.slice e)) (hC : P.cellsOf e = k)
    (hel : ∀ (cs : List Value) (n : Nat) (y : DataW H × List MemPlace), DataW.trod enc P w base spare held n e cs = some y → ∃ a : α, cs = enc' a ∧ Q a)
    (h : DataW.trod enc P w base spare held fuel t [.slice A len cap] = some x) :
    len ≤ cap ∧ cap ≤ maxLen ∧ (A = none → cap = 0) ∧ ∃ xs : List α, xs.length = len ∧ (∀ a ∈ xs, Q a) ∧ Rd enc' k w.heap.size w A xs := by
  rcases open_slice ht h with ⟨h0, _⟩ | ⟨a, l, c, m, n, D, Pl, hcs, _, hl, hm, hmm, _, hi⟩
  · simp only [List.cons.injEq, and_true, Value.slice.injEq] at h0
    obtain ⟨rfl, rfl, rfl⟩ := h0
    exact ⟨Nat.le_refl _, Nat.zero_le _, fun _ => rfl, [], rfl, fun a h => absurd h (by simp), Rd.nil⟩
  · simp only [List.cons.injEq, and_true, Value.slice.injEq] at hcs
    obtain ⟨rfl, rfl, rfl⟩ := hcs
    have hlm : len ≤ m := by rw [hmm]; split <;> omega
    refine ⟨hl, hm, by simp, ?_⟩
    obtain ⟨f, hf⟩ := choose_lt (n := len) (p := fun i (b : α) => Q b ∧ (enc' b).length = k ∧ ∀ j v, (enc' b)[j]? = some v → w.cell? (a.add (i * k + j)) = some v) (fun i hil => by
      obtain ⟨cs, hc, ht'⟩ := hi i (by omega)
      obtain ⟨b, rfl, hQ⟩ := hel _ _ _ ht'
      rw [hC] at hc
      obtain ⟨_, hcl, hat⟩ := World.cells?_some hc
      refine ⟨b, hQ, hcl, fun j v hv => ?_⟩
      have hj : j < k := by rw [← hcl]; exact (List.getElem?_eq_some_iff.1 hv).1
      have := hat j hj
      rw [Go.Deep.add_add] at this
      rw [this, hv])
    refine ⟨(List.range len).map f, by simp, fun b hb => ?_, fun hn => ?_⟩
    · obtain ⟨i, hil, rfl⟩ := List.mem_map.1 hb
      exact (hf i (List.mem_range.1 hil)).1
    · have hlen : 0 < len := by simpa using hn
      obtain ⟨_, h0l, h0⟩ := hf 0 hlen
      have hc0 := h0 0 _ (List.getElem?_eq_getElem (by omega))
      obtain ⟨b, off, spot⟩ := a
      have hsp : spot = none := by simpa [Addr.add] using World.cell?_spot hc0
      subst hsp
      have hlt : b < w.heap.size := by simpa [Addr.add] using cell_lt hc0
      refine ⟨b, off, rfl, hlt, fun i y hy j v hv => ?_⟩
      have hil : i < len := by
        have := (List.getElem?_eq_some_iff.1 hy).1
        simpa using this
      have hy' : y = f i := by
        rw [List.getElem?_map, List.getElem?_range hil] at hy
        simpa using hy.symm
      subst hy'
      have := (hf i hil).2.2 j v hv
      have ha : (Addr.add ⟨b, off, none⟩ (i * k + j)) = ⟨b, off + i * k + j, none⟩ := by
        unfold Addr.add
        split
        · rename_i h0; simp at h0; simp
        · simp [Nat.add_assoc]
      rw [ha] at this
      exact this
end
end Go.Proofs.YtpnkeaeikcobfaaGreatDoor

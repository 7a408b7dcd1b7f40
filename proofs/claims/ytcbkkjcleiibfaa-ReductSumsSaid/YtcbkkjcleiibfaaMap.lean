/- Maps to int that a call makes: what they hold as a function of the key; strings.Contains at a newline. -/
import Derived.Test.YtcbkkjcleiibfaaLeaf
import Derived.Maps.OwnOps
import Derived.Maps.OwnSet
import Derived.Lib.Bytealg
import Derived.Shelf.Strings.Search1
namespace Go.Proofs.Ytcbkkjcleiibfaa
open Go.RowKit Go.Maps

theorem grown_of_below {a w : World} (h : Below a.heap.size a w) (row : Option Nat) : a.grownBy w row := ⟨h.os, h.tape, h.output, h.size, fun i hi _ => h.block i hi⟩

/-- Block B is a map of at most n entries; at the key L it holds f L, which is 0 where there is no entry. -/
def IMap (w : World) (kt : TypeId) (B n : Nat) (f : Lit → Int) : Prop :=
  ∃ D : DataW Unit, w.ownsMap Try.prog kt (plainElem Try.prog 3) B n D ∧ IsMap D ∧ ∀ L, WideAt.IsKeyLit L → D.atKey L (.lit (.int .i64 0)) = .lit (.int .i64 (f L))
theorem zero_int (w : World) : (zeroValue 3).run Try.prog w = .ok (.int .i64 0) w := by kernel_rfl

theorem IMap.new (w : World) (kt : TypeId) : IMap (w.alloc (.map #[] 0)) kt w.heap.size 0 (fun _ => 0) :=
  ⟨.map [], World.ownsMap_made _ _ _ _, isMap_empty, fun _ _ => rfl⟩
theorem IMap.lt {w : World} {kt : TypeId} {B n : Nat} {f : Lit → Int} (h : IMap w kt B n f) : B < w.heap.size := by obtain ⟨D, h, _⟩ := h; exact h.lt
theorem IMap.ext {w w' : World} {kt : TypeId} {B n : Nat} {f : Lit → Int} (h : IMap w kt B n f) (hb : Below w.heap.size w w') : IMap w' kt B n f := by
  obtain ⟨D, h, r⟩ := h
  exact ⟨D, h.kept (grown_of_below hb none) (by simp), r⟩
theorem IMap.mono {w : World} {kt : TypeId} {B n n' : Nat} {f : Lit → Int} (h : IMap w kt B n f) (hn : n ≤ n') : IMap w kt B n' f := by
  obtain ⟨D, h, r⟩ := h
  exact ⟨D, h.mono hn, r⟩
theorem IMap.kept {w w' : World} {kt : TypeId} {B n : Nat} {f : Lit → Int} {row : Option Nat} (h : IMap w kt B n f) (hg : w.grownBy w' row) (hne : some B ≠ row) : IMap w' kt B n f := by
  obtain ⟨D, h, r⟩ := h
  exact ⟨D, h.kept hg hne, r⟩
theorem IMap.look {w : World} {kt t : TypeId} {B n : Nat} {f : Lit → Int} (h : IMap w kt B n f) (K : Keyed Try.prog kt) (ht : Try.prog.underlying t = some (.map kt 3)) {key : Value} {L : Lit} (hkey : keyOf Try.prog kt key = some L) (hL : WideAt.IsKeyLit L) :
    (Instr.lookup t (.map (some B)) key false).run Try.prog w = .ok (.int .i64 (f L)) w := by
  obtain ⟨D, h, _, hf⟩ := h
  obtain ⟨c, hrun, hat, _⟩ := h.lookup_int K ht Try.underlying3 (zero_int w) hkey
  have := hf L hL
  rw [hat] at this
  simp only [DataW.lit.injEq, Lit.int.injEq, true_and] at this
  rw [hrun, this]
theorem IMap.put {w : World} {kt t : TypeId} {B n : Nat} {f : Lit → Int} (h : IMap w kt B n f) (K : Keyed Try.prog kt) (ht : Try.prog.underlying t = some (.map kt 3)) {key : Value} {L : Lit} (hkey : keyOf Try.prog kt key = some L) (hL : WideAt.IsKeyLit L)
    (hn : n < maxLen) (v : Int) (hv : (Lit.int .i64 v).wf = true) :
    ∃ w' f', (Instr.mapUpdate t (.map (some B)) key (.int .i64 v)).run Try.prog w = .ok () w' ∧ IMap w' kt B (n + 1) f' ∧ f' L = v ∧ (∀ L', L' ≠ L → f' L' = f L') ∧ w.grownBy w' (some B) := by
  obtain ⟨D, h, hm, hf⟩ := h
  obtain ⟨w', hrun, ho, hg⟩ := h.update K ht hn hkey (plainElem_int Try.underlying3 hv)
  classical
  refine ⟨w', fun L' => if L' = L then v else f L', hrun, ⟨_, ho, hm.put _ _, fun L' hL' => ?_⟩, if_pos rfl, fun L' he => if_neg he, hg⟩
  by_cases he : L' = L
  · subst he
    simp [atKey_put_same hm hL']
  · simp [atKey_put_other he, he, hf L' hL']

theorem key_int : Keyed Try.prog 3 := int_keyed Try.underlying3
theorem key_str : Keyed Try.prog 9 := string_keyed Try.underlying9

/-- Whether a string holds a newline. -/
def nlB (s : ByteArray) : Bool := s.data.toList.contains 10
theorem indexByte_nl (l : List UInt8) : decide (0 ≤ Lib.indexByte l 10) = l.contains 10 ∧ -1 ≤ Lib.indexByte l 10 := by
  induction l with
  | nil => exact ⟨rfl, by simp [Lib.indexByte]⟩
  | cons b r ih =>
    unfold Lib.indexByte
    by_cases hb : b = 10
    · subst hb; simp
    · have h1 : (b == 10) = false := by simpa using hb
      have h2 : (10 == b) = false := by simpa using fun h : 10 = b => hb h.symm
      rw [List.contains_cons, h1, h2, ← ih.1]
      have := ih.2
      by_cases h3 : Lib.indexByte r 10 = -1
      · rw [h3]; simp
      · have h4 : (Lib.indexByte r 10 == -1) = false := by simpa using h3
        rw [h4]; simp; omega
set_option maxHeartbeats 1000000 in
theorem indexByte_any (s : ByteArray) (w : World) :
    Calls Try.prog 79 #[.string s, .int .u8 10] w fun e w' => ∃ q : Int, e = .returned (.int .i64 q) ∧ decide (0 ≤ q) = nlB s ∧ w = w' := by
  go_enter Try.func79, Try.ntmps79
  go_wp2_with fail
  rw [run_callFunc_extern Try.func83 (by kernel_rfl) (by kernel_rfl) (by kernel_rfl) (e := Extern.BytealgIndexByte.indexByte) (by kernel_rfl), Lib.run_indexByteString]
  simp only [Result.andThen]
  rw [Oper.upon_value]
  go_wp2
  go_ret
  exact ⟨_, rfl, (indexByte_nl _).1, rfl⟩
set_option maxHeartbeats 1000000 in
theorem contains_nl (s : ByteArray) (w : World) :
    Calls Try.prog 56 #[.string s, .string { data := #[10] }] w fun e w' => e = .returned (.bool (nlB s)) ∧ w = w' := by
  go_enter Try.func56, Try.ntmps56
  go_wp2_with (first | (go_at_call 79; refine (indexByte_any _ _).mono ?_; rintro e w' ⟨q, rfl, hq, rfl⟩; have HQ := Lib.hid hq; clear hq) | go_in)
  all_goals go_ret
  · have h : ([10] == s.toList) = true := by assumption
    exact ⟨ret_bool (by unfold nlB; rw [ByteArray.toList_eq] at h; rw [← eq_of_beq h]; rfl), rfl⟩
  all_goals exact ⟨ret_bool (by rw [← HQ.out] <;> first | exact (decide_eq_true (by omega)).symm | exact (decide_eq_false (by omega)).symm), rfl⟩
end Go.Proofs.Ytcbkkjcleiibfaa

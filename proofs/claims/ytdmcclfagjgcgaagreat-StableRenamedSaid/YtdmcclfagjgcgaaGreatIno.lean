/- The contract of ostlerlaw19.In (without Cls). -/
import Derived.Test.YtdmcclfagjgcgaaGreatG2
namespace Go.Proofs.YtdmcclfagjgcgaaGreat
open Go.RowKit

def inO (a b : List Int) : Bool := a.all (fun x => decide (x ∈ b))
theorem inO_cons (x : Int) (r b : List Int) : inO (x :: r) b = (decide (x ∈ b) && inO r b) := by simp [inO]
set_option maxRecDepth 100000 in
set_option maxHeartbeats 1000000 in
theorem inO_any (aA : Option Addr) (al ac : Nat) (bA : Option Addr) (bl bc : Nat) (xs ys : List Int) (w : World) (ha : SlIs intR w aA al ac xs) (hb : SlIs intR w bA bl bc ys) :
    Calls Tryz.prog 15 #[.slice aA al ac, .slice bA bl bc] w fun e w' => e = .returned (.bool (inO xs ys)) ∧ w = w' := by
  have ha1 := ha.cap
  have ha2 := ha.max
  have hb1 := hb.cap
  have hb2 := hb.max
  have HA := Lib.hid ha; clear ha
  have HB := Lib.hid hb; clear hb
  go_enter Tryz.func15, Tryz.ntmps15
  go_wp2
  go_loop [12] (fun i => ∃ k : Nat, k ≤ al ∧ i = .int .i64 (k : Int) ∧ inO xs ys = inO (xs.drop k) ys) (fun i => al - (intOf i).toNat)
  case atStart => exact ⟨0, Nat.zero_le _, rfl, rfl⟩
  case round =>
    obtain ⟨k, hk, rfl, hs⟩ := hrel
    have HS := Lib.hid hs; clear hs
    by_cases hlt : k < al
    · obtain ⟨x, hx, hd⟩ := HA.out.drop hlt
      obtain ⟨b1, o1, rfl, _, cx, _⟩ := HA.out.int hx
      have k0 : (0 : Int) ≤ (k : Int) := by omega
      have k1 : (k : Int) < (al : Int) := by omega
      have HX := Lib.hid hx; clear hx
      have HD := Lib.hid hd; clear hd
      go_wp2
      go_loop [7, 18] (fun f i => ∃ (q : Nat) (z : Bool), q ≤ bl ∧ f = .bool z ∧ i = .int .i64 (q : Int) ∧ decide (x ∈ ys) = (z || decide (x ∈ ys.drop q))) (fun _ i => bl - (intOf i).toNat)
      case atStart => exact ⟨0, false, Nat.zero_le _, rfl, rfl, by simp⟩
      case round =>
        obtain ⟨q, z, hq, rfl, rfl, hs2⟩ := hrel
        have HS2 := Lib.hid hs2; clear hs2
        by_cases hlq : q < bl
        · obtain ⟨y, hy, hdy⟩ := HB.out.drop hlq
          obtain ⟨b2, o2, rfl, _, cy, _⟩ := HB.out.int hy
          have q0 : (0 : Int) ≤ (q : Int) := by omega
          have q1 : (q : Int) < (bl : Int) := by omega
          have HY := Lib.hid hy; clear hy
          have HDY := Lib.hid hdy; clear hdy
          cases z with
          | true =>
            go_wp2
            go_round
            case rel => exact ⟨q + 1, true, by omega, rfl, by go_num, by rw [HS2.out]; simp⟩
            case measure => simp [intOf]; omega
          | false =>
            go_wp2
            go_round
            case rel => exact ⟨q + 1, x == y, by omega, rfl, by go_num, by rw [HS2.out, HDY.out, Bool.false_or, Bool.eq_iff_iff]; simp⟩
            case measure => simp [intOf]; omega
        · have hz : decide (x ∈ ys) = z := by rw [HS2.out, HB.out.stop (by omega)]; simp
          have hin : inO xs ys = (z && inO (xs.drop (k + 1)) ys) := by rw [HS.out, HD.out, inO_cons, hz]
          cases z with
          | true =>
            have HZ := Lib.hid hz; clear hz
            have HIN := Lib.hid hin; clear hin
            go_wp2
            go_round
            case rel => exact ⟨k + 1, by omega, by go_num, by rw [HIN.out, Bool.true_and]⟩
            case measure => simp [intOf]; omega
          | false =>
            have HZ := Lib.hid hz; clear hz
            have HIN := Lib.hid hin; clear hin
            go_wp2
            go_ret
            exact ⟨ret_bool (by rw [HIN.out, Bool.false_and]), rfl⟩
    · go_wp2
      go_ret
      exact ⟨ret_bool (by rw [HS.out, HA.out.stop (by omega)]; rfl), rfl⟩
/-- In of one element that the call's caller has just laid down. -/
theorem in1_any (x : Int) (bA : Option Addr) (bl bc : Nat) (ys : List Int) (w : World) (hx : I64 x) (hb : SlIs intR w bA bl bc ys) :
    Calls Tryz.prog 15 #[.slice (some ⟨w.heap.size, 0, none⟩) 1 1, .slice bA bl bc] (w.alloc (.cells #[.int .i64 x] 3)) fun e w' => e = .returned (.bool (decide (x ∈ ys))) ∧ w.alloc (.cells #[.int .i64 x] 3) = w' := by
  have hs : SlIs intR (w.alloc (.cells #[.int .i64 x] 3)) (some ⟨w.heap.size, 0, none⟩) 1 1 [x] := by
    refine ⟨rfl, Nat.le_refl _, ⟨by decide, by decide⟩, fun _ => ⟨_, rfl, by simp, fun i y hy => ?_⟩⟩
    match i, hy with
    | 0, hy =>
      simp at hy; subst hy
      refine ⟨[.int .i64 x], ⟨rfl, hx⟩, fun j u hu => ?_⟩
      rw [add_none]
      match j, hu with
      | 0, hu => simp at hu; subst hu; exact (Blk.new w 3 #[.int .i64 x]).cell 0
      | j + 1, hu => simp at hu
    | i + 1, hy => simp at hy
  have h := inO_any _ _ _ _ _ _ [x] ys _ hs (hb.ext (bel_alloc _ _))
  have e : inO [x] ys = decide (x ∈ ys) := by simp [inO]
  rw [e] at h; exact h
end Go.Proofs.YtdmcclfagjgcgaaGreat

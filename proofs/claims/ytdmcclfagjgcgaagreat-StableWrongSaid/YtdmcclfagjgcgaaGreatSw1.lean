/- Contracts: stable.disjunctive, satisfies. -/
import Derived.Test.YtdmcclfagjgcgaaGreatRd7
import Derived.Test.YtdmcclfagjgcgaaGreatG3
namespace Go.Proofs.YtdmcclfagjgcgaaGreat
open Go.RowKit

set_option maxRecDepth 100000 in
set_option maxHeartbeats 1000000 in
theorem dis1_any (x : GRule) (hA : Option Addr) (hl hc : Nat) (bA : Option Addr) (bl bc : Nat) (wA : Option Addr) (wl wc : Nat) (w : World) (hx : RuleIn w x hA hl hc bA bl bc wA wl wc) :
    Calls Tryz.prog 121 #[.agg #[.bool x.choice, .slice hA hl hc, .bool x.sum, .int .i64 x.bound, .slice bA bl bc, .slice wA wl wc]] w fun e w' => e = .returned (.bool (!x.choice && decide (1 < x.head.length))) ∧ Below w.heap.size w w' := by
  have hhl := hx.head.len
  have hhc := hx.head.cap
  have hhm := hx.head.max
  rw [← hhl]
  clear hhl
  cases hc : x.choice with
  | true =>
    have HX := Lib.hid hx; clear hx
    have HC := Lib.hid hc; clear hc
    go_enter Tryz.func121, Tryz.ntmps121
    go_wp2_with fail
    go_ret
    exact ⟨rfl, bel_alloc _ _⟩
  | false =>
    by_cases h1 : 1 < hl
    · have e1 : decide ((1 : Int) < (hl : Int)) = true := decide_eq_true (by omega)
      have e2 : decide (1 < hl) = true := decide_eq_true h1
      have HX := Lib.hid hx; clear hx
      have HC := Lib.hid hc; clear hc
      go_enter Tryz.func121, Tryz.ntmps121
      go_wp2_with fail
      go_ret
      exact ⟨ret_bool (by rw [e2]; rfl), bel_alloc _ _⟩
    · have e1 : decide ((1 : Int) < (hl : Int)) = false := decide_eq_false (by omega)
      have e2 : decide (1 < hl) = false := decide_eq_false h1
      have HX := Lib.hid hx; clear hx
      have HC := Lib.hid hc; clear hc
      go_enter Tryz.func121, Tryz.ntmps121
      go_wp2_with fail
      go_ret
      exact ⟨ret_bool (by rw [e2]; rfl), bel_alloc _ _⟩
def disR (r : GRule) : Bool := !r.choice && decide (1 < r.head.length)
set_option maxRecDepth 100000 in
set_option maxHeartbeats 1000000 in
theorem disjunctive_any (p : GProg) (nA : Option Addr) (nl nc : Nat) (sA : Option Addr) (sl sc : Nat) (rA : Option Addr) (rl rc : Nat) (mA : Option Addr) (ml mc : Nat) (w : World) (hp : ProgIn w p nA nl nc sA sl sc rA rl rc mA ml mc) :
    Calls Tryz.prog 73 #[.agg #[.int .i64 p.n, .slice nA nl nc, .slice sA sl sc, .slice rA rl rc, .slice mA ml mc]] w fun e w' => e = .returned (.bool (p.rules.any disR)) ∧ Below w.heap.size w w' := by
  have cF := fun W (hb : Below w.heap.size w W) => containsFuncR_any rA rl rc p.rules 121 #[] disR W (hp.rules.ext hb) (fun args W => by kernel_rfl)
    (fun W' x hA hl hc bA bl bc wA wl wc _ _ hx => dis1_any x hA hl hc bA bl bc wA wl wc W' hx)
  have HP := Lib.hid hp; clear hp
  have CF := Lib.hid cF; clear cF
  go_enter Tryz.func73, Tryz.ntmps73
  go_wp2_with fail
  go_fit (CF.out _ (bel_alloc _ _)); rintro e w1 ⟨rfl, hb1⟩
  have HB1 := Lib.hid (bel_trans (bel_alloc _ _) hb1)
  clear hb1
  go_wp2_with fail
  go_ret
  exact ⟨rfl, HB1.out⟩
set_option maxRecDepth 100000 in
set_option maxHeartbeats 1000000 in
theorem sat11_any (x : Int) (a : Nat) (mA : Option Addr) (ml mc : Nat) (ms : List Int) (w : World) (hc : w.cell? ⟨a, 0, none⟩ = some (.slice mA ml mc)) (hm : SlIs intR w mA ml mc ms) :
    Calls Tryz.prog 158 #[.int .i64 x, .pointer (some ⟨a, 0, none⟩)] w fun e w' => e = .returned (.bool (decide (x ∈ ms))) ∧ Below w.heap.size w w' := by
  have cC := containsI_any mA ml mc ms x w hm
  have HM := Lib.hid hm; clear hm
  have CC := Lib.hid cC; clear cC
  go_enter Tryz.func158, Tryz.ntmps158
  go_wp2_with fail
  go_fit CC.out; rintro e w' ⟨rfl, rfl⟩
  go_wp2_with fail
  go_ret
  exact ⟨rfl, Below.refl _ _⟩
/-- A rule that is satisfied, as the program tells it. -/
def satC (r : GRule) (m : List Int) : Bool := r.choice || (!bodyC r m || r.head.any (fun a => decide (a ∈ m)))
set_option maxRecDepth 100000 in
set_option maxHeartbeats 2000000 in
theorem sat1_any (x : GRule) (hA : Option Addr) (hl hc : Nat) (bA : Option Addr) (bl bc : Nat) (wA : Option Addr) (wl wc : Nat) (a : Nat) (mA : Option Addr) (ml mc : Nat) (ms : List Int) (w : World) (hx : RuleIn w x hA hl hc bA bl bc wA wl wc) (hcell : w.cell? ⟨a, 0, none⟩ = some (.slice mA ml mc)) (hm : SlIs intR w mA ml mc ms) :
    Calls Tryz.prog 157 #[.agg #[.bool x.choice, .slice hA hl hc, .bool x.sum, .int .i64 x.bound, .slice bA bl bc, .slice wA wl wc], .pointer (some ⟨a, 0, none⟩)] w fun e w' => e = .returned (.bool (!satC x ms)) ∧ Below w.heap.size w w' := by
  have hsat : satC x ms = (x.choice || (!bodyC x ms || x.head.any (fun a => decide (a ∈ ms)))) := rfl
  have hal := World.block_lt_of_cell? w _ hcell
  simp only at hal
  have cB := fun W (hb : Below w.heap.size w W) => bodyOut_any x hA hl hc bA bl bc wA wl wc mA ml mc ms W (hx.ext hb) (hm.ext hb)
  have cH := fun W (hb : Below w.heap.size w W) => containsFuncI_any hA hl hc x.head 158 #[.pointer (some ⟨a, 0, none⟩)] (fun y => decide (y ∈ ms)) W (hx.head.ext hb) (fun args W => by kernel_rfl)
      (fun W' y hb' _ _ => sat11_any y a mA ml mc ms W' (((bel_trans hb hb').cell (p := ⟨a, 0, none⟩) hal).trans hcell) (hm.ext (bel_trans hb hb')))
  generalize bodyC x ms = q at *
  generalize x.head.any (fun y => decide (y ∈ ms)) = q2 at *
  cases hch : x.choice with
  | true =>
    rw [hch] at hsat
    clear cB cH
    have HX := Lib.hid hx; clear hx
    have HM := Lib.hid hm; clear hm
    have HSAT := Lib.hid hsat; clear hsat
    have HCH := Lib.hid hch; clear hch
    go_enter Tryz.func157, Tryz.ntmps157
    go_wp2_with fail
    go_ret
    exact ⟨ret_bool (by rw [HSAT.out]; rfl), bel_alloc _ _⟩
  | false =>
    rw [hch] at hsat cB
    cases q with
    | false =>
      have HX := Lib.hid hx; clear hx
      have HM := Lib.hid hm; clear hm
      have HSAT := Lib.hid hsat; clear hsat
      have HCH := Lib.hid hch; clear hch
      have CB := Lib.hid cB; clear cB
      have CH := Lib.hid cH; clear cH
      go_enter Tryz.func157, Tryz.ntmps157
      go_wp2_with fail
      go_fit (CB.out _ (bel_alloc _ _)); rintro e w1 ⟨rfl, hb1⟩
      have HB1 := Lib.hid (bel_trans (bel_alloc _ _) hb1)
      clear hb1
      go_wp2_with fail
      go_ret
      exact ⟨ret_bool (by rw [HSAT.out]; rfl), HB1.out⟩
    | true =>
      have HX := Lib.hid hx; clear hx
      have HM := Lib.hid hm; clear hm
      have HSAT := Lib.hid hsat; clear hsat
      have HCH := Lib.hid hch; clear hch
      have CB := Lib.hid cB; clear cB
      have CH := Lib.hid cH; clear cH
      go_enter Tryz.func157, Tryz.ntmps157
      go_wp2_with fail
      go_fit (CB.out _ (bel_alloc _ _)); rintro e w1 ⟨rfl, hb1⟩
      have hb1' := (Blk.new w 37 #[.bool false, .slice hA hl hc, .bool x.sum, .int .i64 x.bound, .slice bA bl bc, .slice wA wl wc]).bel hb1
      have s1 := hb1'.cell 1
      have s2 := hb1'.lt
      have HB1 := Lib.hid (bel_trans (bel_alloc _ _) hb1)
      clear hb1
      have HB1' := Lib.hid hb1'; clear hb1'
      go_wp2_with fail
      go_fit (CH.out _ HB1.out); rintro e w2 ⟨rfl, hb2⟩
      have HB2 := Lib.hid (bel_trans HB1.out hb2)
      clear hb2
      go_wp2_with fail
      go_ret
      exact ⟨ret_bool (by rw [HSAT.out]; simp), HB2.out⟩
set_option maxRecDepth 100000 in
set_option maxHeartbeats 1000000 in
theorem satisfies_any (rA : Option Addr) (rl rc : Nat) (rs : List GRule) (mA : Option Addr) (ml mc : Nat) (ms : List Int) (w : World) (h : SlIs ruleR w rA rl rc rs) (hm : SlIs intR w mA ml mc ms) :
    Calls Tryz.prog 128 #[.slice rA rl rc, .slice mA ml mc] w fun e w' => e = .returned (.bool (rs.all (fun r => satC r ms))) ∧ Below w.heap.size w w' := by
  have cF := fun W (hb : Below (w.alloc (.cells #[.slice mA ml mc] 23)).heap.size (w.alloc (.cells #[.slice mA ml mc] 23)) W) => containsFuncR_any rA rl rc rs 157 #[.pointer (some ⟨w.heap.size, 0, none⟩)] (fun r => !satC r ms) W (h.ext (bel_trans (bel_alloc _ _) hb)) (fun args W => by kernel_rfl)
    (fun W' x hA hl hc bA bl bc wA wl wc hb' _ hx => sat1_any x hA hl hc bA bl bc wA wl wc w.heap.size mA ml mc ms W' hx (((Blk.new w 23 #[.slice mA ml mc]).bel (bel_trans hb hb')).cell 0) (hm.ext (bel_trans (bel_alloc _ _) (bel_trans hb hb'))))
  have he : (!rs.any fun r => !satC r ms) = rs.all (fun r => satC r ms) := by rw [List.not_any_eq_all_not]; simp
  rw [← he]
  have H := Lib.hid h; clear h
  have HM := Lib.hid hm; clear hm
  have CF := Lib.hid cF; clear cF
  have HE := Lib.hid he; clear he
  go_enter Tryz.func128, Tryz.ntmps128
  go_wp2_with fail
  go_fit (CF.out _ (Below.refl _ _)); rintro e w1 ⟨rfl, hb1⟩
  have HB1 := Lib.hid (bel_trans (bel_alloc _ _) hb1)
  clear hb1
  go_wp2_with fail
  go_ret
  exact ⟨rfl, HB1.out⟩
end Go.Proofs.YtdmcclfagjgcgaaGreat

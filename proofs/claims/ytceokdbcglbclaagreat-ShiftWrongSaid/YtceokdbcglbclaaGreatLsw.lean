/- The law ShiftWrong: it answers true and changes nothing that was there. -/
import Derived.Test.YtceokdbcglbclaaGreatLsm
import Derived.Test.YtceokdbcglbclaaGreatGSb
namespace Go.Proofs.YtceokdbcglbclaaGreat
open Go.RowKit
set_option maxRecDepth 100000 in
set_option maxHeartbeats 8000000 in
theorem shiftWrong_any (p : GProg) (nA : Option Addr) (nl nc : Nat) (sA : Option Addr) (sl sc : Nat) (rA : Option Addr) (rl rc : Nat) (mA : Option Addr) (ml mc : Nat) (w : World) (hp : ProgIn w p nA nl nc sA sl sc rA rl rc mA ml mc) :
  Calls Tryz.prog 3 #[.agg #[.int .i64 p.n,.slice nA nl nc,.slice sA sl sc,.slice rA rl rc,.slice mA ml mc]] w fun e w' => e = .returned (.bool true) ∧ Below w.heap.size w w' := by
 have cF := fun W (hb : Below w.heap.size w W) => few_any p nA nl nc sA sl sc rA rl rc mA ml mc W (hp.ext hb)
 have cV := fun W (hb : Below w.heap.size w W) => valid_any p nA nl nc sA sl sc rA rl rc mA ml mc W (hp.ext hb)
 have cA := awake22_any
 have bW := bel_alloc w (.cells #[.int .i64 p.n,.slice nA nl nc,.slice sA sl sc,.slice rA rl rc,.slice mA ml mc] 27)
 have bP : Blk (w.alloc (.cells #[.int .i64 p.n,.slice nA nl nc,.slice sA sl sc,.slice rA rl rc,.slice mA ml mc] 27)) w.heap.size 27 #[.int .i64 p.n,.slice nA nl nc,.slice sA sl sc,.slice rA rl rc,.slice mA ml mc] := blk_new rfl _ _
 cases hf : fewB p with
 | false =>
  rw [hf] at cF
  have HP := Lib.hid hp; clear hp
  have CF := Lib.hid cF; clear cF
  have CV := Lib.hid cV; clear cV
  have CA := Lib.hid cA; clear cA
  have BW := Lib.hid bW; clear bW
  have BP := Lib.hid bP; clear bP
  have HF := Lib.hid hf; clear hf
  go_enter Tryz.func3,Tryz.ntmps3
  go_wp2_with fail
  go_fit (CF.out _ BW.out); rintro e w1 ⟨rfl,hb⟩
  have HBP := BP
  have HBL := BW
  have hbp := HBP.out.bel hb
  have HBL' := Lib.hid (bel_trans HBL.out hb)
  clear hb HBP HBL
  have HBL := HBL'
  clear HBL'
  obtain ⟨p0,p1,p2,p3,p4,p5⟩ := pcells hbp
  have HBP := Lib.hid hbp; clear hbp
  go_wp2_with fail
  clear p0 p1 p2 p3 p4 p5
  go_wp2_with fail
  go_fit (CA.out _); rintro e wz ⟨rfl,hbz⟩
  have HBZ := Lib.hid (bel_trans HBL.out hbz)
  clear hbz
  go_wp2_with fail
  go_ret
  exact ⟨rfl,HBZ.out⟩
 | true =>
  rw [hf] at cF
  by_cases h2 : p.n < 2
  ·
   have HP := Lib.hid hp; clear hp
   have CF := Lib.hid cF; clear cF
   have CV := Lib.hid cV; clear cV
   have CA := Lib.hid cA; clear cA
   have BW := Lib.hid bW; clear bW
   have BP := Lib.hid bP; clear bP
   have HF := Lib.hid hf; clear hf
   go_enter Tryz.func3,Tryz.ntmps3
   go_wp2_with fail
   go_fit (CF.out _ BW.out); rintro e w1 ⟨rfl,hb⟩
   have HBP := BP
   have HBL := BW
   have hbp := HBP.out.bel hb
   have HBL' := Lib.hid (bel_trans HBL.out hb)
   clear hb HBP HBL
   have HBL := HBL'
   clear HBL'
   obtain ⟨p0,p1,p2,p3,p4,p5⟩ := pcells hbp
   have HBP := Lib.hid hbp; clear hbp
   go_wp2_with fail
   clear p0 p1 p2 p3 p4 p5
   go_wp2_with fail
   go_fit (CA.out _); rintro e wz ⟨rfl,hbz⟩
   have HBZ := Lib.hid (bel_trans HBL.out hbz)
   clear hbz
   go_wp2_with fail
   go_ret
   exact ⟨rfl,HBZ.out⟩
  by_cases hv : validE p = 0
  ·rw [hv] at cV
   have hpi := validE_is hv
   have hn := namedB_n hpi.named
   have hfs := few_small hf
   have hn4 := hfs.1
   have hn2 : 2 ≤ p.n := by omega
   have hr1 : p.rules.length ≤ 1000 := by omega
   have e1 : IntKind.i64.wrap (p.n + 1) = p.n + 1 := IntWalk.i64_in _ (by omega)
   have hpl := hp.rules.len
   have hsz := val_sizes hp hv
   have cE := fun W (hb : Below w.heap.size w W) (A : Option Addr) (l c : Nat) (hs : SlIs ruleR W A l c wrL22) => extend_any p nA nl nc sA sl sc rA rl rc mA ml mc 0 A l c wrL22 W (hp.ext hb) hv (by simp; omega) hsz.1
    (fun r hr => by
     have a1 := inc_lenN hn.1 (hpi.rules r hr).head
     have a2 := ordB_len hn.1 (hpi.rules r hr).body
     refine ⟨by omega,by omega,?_⟩
     cases hs : r.sum with
     | true => rw [(hpi.rules r hr).wlen hs]; omega
     | false => rw [((hpi.rules r hr).plain hs).1]; simp) hsz.2 hs (by have := hs.len; simp [wrL22] at this; omega) (by simpa using wr_pre hn2 (by omega))
   have hQ := wr_se hpi hn2 hr1
   have cQS := fun (a1 : Option Addr) (a2 a3 : Nat) (a4 : Option Addr) (a5 a6 : Nat) (a7 : Option Addr) (a8 a9 : Nat) (a10 : Option Addr) (a11 a12 : Nat) W (hq : ProgIn W (extP p 0 wrL22) a1 a2 a3 a4 a5 a6 a7 a8 a9 a10 a11 a12) => shift_err (extP p 0 wrL22) a1 a2 a3 a4 a5 a6 a7 a8 a9 a10 a11 a12 W hq (by rw [hQ]; decide)
   have cQL := fun (a1 : Option Addr) (a2 a3 : Nat) (a4 : Option Addr) (a5 a6 : Nat) (a7 : Option Addr) (a8 a9 : Nat) (a10 : Option Addr) (a11 a12 : Nat) W (hq : ProgIn W (extP p 0 wrL22) a1 a2 a3 a4 a5 a6 a7 a8 a9 a10 a11 a12) => lift_err1 (extP p 0 wrL22) a1 a2 a3 a4 a5 a6 a7 a8 a9 a10 a11 a12 none 0 0 [] W hq (by rw [hQ]; decide)
   rw [hQ] at cQS cQL
   have hQn : (extP p 0 wrL22).n = p.n := by show p.n + ((0 : Nat) : Int) = p.n; simp
   rw [hQn] at cQS cQL
   clear hQn
   have hR := wr_n1 hpi
   have hpr : ∀ W,Below w.heap.size w W → ProgIn W { p with n := p.n + 1 } nA nl nc sA sl sc rA rl rc mA ml mc := fun W hb => by
    have h := hp.ext hb
    exact ⟨by unfold I64; show _ ≤ p.n + 1 ∧ p.n + 1 ≤ _; omega,h.names,h.shown,h.rules,h.min⟩
   have cRS := fun W (hb : Below w.heap.size w W) => shift_err { p with n := p.n + 1 } nA nl nc sA sl sc rA rl rc mA ml mc W (hpr W hb) (by rw [hR]; decide)
   have cRL := fun W (hb : Below w.heap.size w W) => lift_err1 { p with n := p.n + 1 } nA nl nc sA sl sc rA rl rc mA ml mc none 0 0 [] W (hpr W hb) (by rw [hR]; decide)
   rw [hR] at cRS cRL
   have hso := sf_small hpi hfs.1 (by omega)
   have hinc := wr_inc p.n
   obtain ⟨fe,hfe⟩ : ∃ fe : Int,fe = if freeB p = true then 0 else 220 := ⟨_,rfl⟩
   obtain ⟨le,hle⟩ : ∃ le : Int,le = if freeB p = true then 2 else 220 := ⟨_,rfl⟩
   have hse : freeB p = false → shiftE (freeB p) p = 220 := fun h => by unfold shiftE; rw [if_neg (by simp [hv]),h]; rfl
   have cPL : ∀ W (hb : Below w.heap.size w W) (A : Option Addr) (l c : Nat) (hs : SlIs intR W A l c [p.n + 1]),Calls Tryz.prog 14 #[.agg #[.int .i64 p.n,.slice nA nl nc,.slice sA sl sc,.slice rA rl rc,.slice mA ml mc],.slice A l c] W fun e w' => e = .returned (.tuple #[.slice none 0 0,.int .i64 le]) ∧ Below W.heap.size W w' := fun W hb A l c hs => by
    cases hfr : freeB p with
    | true => rw [hle,if_pos hfr]; exact lift_err2 p nA nl nc sA sl sc rA rl rc mA ml mc A l c [p.n + 1] W (hp.ext hb) hs hv hfr hso hinc
    | false =>
     rw [hle,if_neg (by simp [hfr])]
     have h := lift_err1 p nA nl nc sA sl sc rA rl rc mA ml mc A l c [p.n + 1] W (hp.ext hb) (by rw [hse hfr]; decide)
     rw [hse hfr] at h; exact h
   have cPS : ∀ W (hb : Below w.heap.size w W),Calls Tryz.prog 13 #[.agg #[.int .i64 p.n,.slice nA nl nc,.slice sA sl sc,.slice rA rl rc,.slice mA ml mc]] W fun e w' => ∃ (z : Int) (a1 : Option Addr) (a2 a3 : Nat) (a4 : Option Addr) (a5 a6 : Nat) (a7 : Option Addr) (a8 a9 : Nat) (a10 : Option Addr) (a11 a12 : Nat),e = .returned (.tuple #[.agg #[.int .i64 z,.slice a1 a2 a3,.slice a4 a5 a6,.slice a7 a8 a9,.slice a10 a11 a12],.int .i64 fe]) ∧ Below W.heap.size W w' := fun W hb => by
    cases hfr : freeB p with
    | true =>
     rw [hfe,if_pos hfr]
     exact (shift_any p nA nl nc sA sl sc rA rl rc mA ml mc W (hp.ext hb) hv hfr hso).mono fun e w' ⟨a1,a2,a3,a4,a5,a6,a7,a8,a9,a10,a11,a12,he,_,hb'⟩ => ⟨_,a1,a2,a3,a4,a5,a6,a7,a8,a9,a10,a11,a12,he,hb'⟩
    | false =>
     rw [hfe,if_neg (by simp [hfr])]
     have h := shift_err p nA nl nc sA sl sc rA rl rc mA ml mc W (hp.ext hb) (by rw [hse hfr]; decide)
     rw [hse hfr] at h
     exact h.mono fun e w' ⟨he,hb'⟩ => ⟨_,_,_,_,_,_,_,_,_,_,_,_,_,he,hb'⟩
   have hcase : (fe = 0 ∧ le = 2) ∨ (fe = 220 ∧ le = 220) := by
    rw [hfe,hle]
    cases freeB p <;> simp
   have HP := Lib.hid hp; clear hp
   have CF := Lib.hid cF; clear cF
   have CV := Lib.hid cV; clear cV
   have CA := Lib.hid cA; clear cA
   have BW := Lib.hid bW; clear bW
   have BP := Lib.hid bP; clear bP
   have HF := Lib.hid hf; clear hf
   have HV := Lib.hid hv; clear hv
   have HPI := Lib.hid hpi; clear hpi
   have HFS := Lib.hid hfs; clear hfs
   have CE := Lib.hid cE; clear cE
   have CQS := Lib.hid cQS; clear cQS
   have CQL := Lib.hid cQL; clear cQL
   have CRS := Lib.hid cRS; clear cRS
   have CRL := Lib.hid cRL; clear cRL
   have CPL := Lib.hid cPL; clear cPL
   have CPS := Lib.hid cPS; clear cPS
   have HQ := Lib.hid hQ; clear hQ
   have HR := Lib.hid hR; clear hR
   have HPR := Lib.hid hpr; clear hpr
   have HSO := Lib.hid hso; clear hso
   have HINC := Lib.hid hinc; clear hinc
   have HFE := Lib.hid hfe; clear hfe
   have HLE := Lib.hid hle; clear hle
   have HSE := Lib.hid hse; clear hse
   have HCASE := Lib.hid hcase; clear hcase
   have HN := Lib.hid hn; clear hn
   have HSZ := Lib.hid hsz; clear hsz
   have HPL := Lib.hid hpl; clear hpl
   go_enter Tryz.func3,Tryz.ntmps3
   go_wp2_with fail
   go_fit (CF.out _ BW.out); rintro e w1 ⟨rfl,hb⟩
   have HBP := BP
   have HBL := BW
   have hbp := HBP.out.bel hb
   have HBL' := Lib.hid (bel_trans HBL.out hb)
   clear hb HBP HBL
   have HBL := HBL'
   clear HBL'
   obtain ⟨p0,p1,p2,p3,p4,p5⟩ := pcells hbp
   have HBP := Lib.hid hbp; clear hbp
   go_wp2_with fail
   clear p0 p1 p2 p3 p4 p5
   go_fit (CV.out _ HBL.out); rintro e w2 ⟨rfl,hb⟩
   have hbp := HBP.out.bel hb
   have HBL2 := Lib.hid (bel_trans HBL.out hb)
   clear hb HBP HBL
   obtain ⟨p0,p1,p2,p3,p4,p5⟩ := pcells hbp
   have hr9 : SlIs ruleR ((((((w2.alloc (.cells #[.int .i64 1,.int .i64 2] 3)).alloc (.cells #[.int .i64 1] 3)).alloc (.cells #[.int .i64 2] 3)).alloc (.cells #[.int .i64 2] 3)).alloc (.cells #[.int .i64 1] 3)).alloc (.cells #[.bool false,.slice (some ⟨w2.heap.size,0,none⟩) 2 2,.bool false,.int .i64 0,.slice none 0 0,.slice none 0 0,.bool false,.slice (some ⟨w2.heap.size + 1,0,none⟩) 1 1,.bool false,.int .i64 0,.slice (some ⟨w2.heap.size + 1 + 1,0,none⟩) 1 1,.slice none 0 0,.bool true,.slice (some ⟨w2.heap.size + 1 + 1 + 1,0,none⟩) 1 1,.bool false,.int .i64 0,.slice (some ⟨w2.heap.size + 1 + 1 + 1 + 1,0,none⟩) 1 1,.slice none 0 0] 35)) (some ⟨w2.heap.size + 1 + 1 + 1 + 1 + 1,0,none⟩) 3 3 wrL22 := sl_rulesAt (cs := [.bool false,.slice (some ⟨w2.heap.size,0,none⟩) 2 2,.bool false,.int .i64 0,.slice none 0 0,.slice none 0 0,.bool false,.slice (some ⟨w2.heap.size + 1,0,none⟩) 1 1,.bool false,.int .i64 0,.slice (some ⟨w2.heap.size + 1 + 1,0,none⟩) 1 1,.slice none 0 0,.bool true,.slice (some ⟨w2.heap.size + 1 + 1 + 1,0,none⟩) 1 1,.bool false,.int .i64 0,.slice (some ⟨w2.heap.size + 1 + 1 + 1 + 1,0,none⟩) 1 1,.slice none 0 0]) (blk_new (by simp) _ _)
    ⟨rfl,i2 _ _ _ _ (((((blk_new rfl _ _).alloc _).alloc _).alloc _).alloc _ |>.alloc _) (by simp [I64]) (by simp [I64]),rfl,rfl,by simp [I64],ints_nil _,ints_nil _,
     rfl,i1 _ _ _ (((((blk_new (by simp) _ _).alloc _).alloc _).alloc _).alloc _) (by simp [I64]),rfl,rfl,by simp [I64],i1 _ _ _ ((((blk_new (by simp) _ _).alloc _).alloc _).alloc _) (by simp [I64]),ints_nil _,
     rfl,i1 _ _ _ (((blk_new (by simp) _ _).alloc _).alloc _) (by simp [I64]),rfl,rfl,by simp [I64],i1 _ _ _ ((blk_new (by simp) _ _).alloc _) (by simp [I64]),ints_nil _,trivial⟩ rfl (by simp)
   have hb9 : Below w2.heap.size w2 ((((((w2.alloc (.cells #[.int .i64 1,.int .i64 2] 3)).alloc (.cells #[.int .i64 1] 3)).alloc (.cells #[.int .i64 2] 3)).alloc (.cells #[.int .i64 2] 3)).alloc (.cells #[.int .i64 1] 3)).alloc (.cells #[.bool false,.slice (some ⟨w2.heap.size,0,none⟩) 2 2,.bool false,.int .i64 0,.slice none 0 0,.slice none 0 0,.bool false,.slice (some ⟨w2.heap.size + 1,0,none⟩) 1 1,.bool false,.int .i64 0,.slice (some ⟨w2.heap.size + 1 + 1,0,none⟩) 1 1,.slice none 0 0,.bool true,.slice (some ⟨w2.heap.size + 1 + 1 + 1,0,none⟩) 1 1,.bool false,.int .i64 0,.slice (some ⟨w2.heap.size + 1 + 1 + 1 + 1,0,none⟩) 1 1,.slice none 0 0] 35)) := bel_trans (bel_trans (bel_trans (bel_trans (bel_trans (bel_alloc _ _) (bel_alloc _ _)) (bel_alloc _ _)) (bel_alloc _ _)) (bel_alloc _ _)) (bel_alloc _ _)
   have HBL := Lib.hid (bel_trans HBL2.out hb9)
   have hbp' := hbp.bel hb9
   have cE2 := CE.out _ HBL.out _ 3 3 hr9
   have HBP := Lib.hid hbp'
   clear hbp' hr9 hb9 HBL2 hbp
   have CE2 := Lib.hid cE2; clear cE2
   go_wp2_with fail
   clear p0 p1 p2 p3 p4 p5
   go_fit CE2.out; rintro e w3 ⟨a1,a2,a3,a4,a5,a6,a7,a8,a9,a10,a11,a12,rfl,hq,hb'⟩
   have hb := bel_trans hb' (bel_alloc w3 (.cells #[.int .i64 p.n,.slice a1 a2 a3,.slice a4 a5 a6,.slice a7 a8 a9,.slice a10 a11 a12] 27))
   have hq4 := hq.ext (bel_alloc w3 (.cells #[.int .i64 p.n,.slice a1 a2 a3,.slice a4 a5 a6,.slice a7 a8 a9,.slice a10 a11 a12] 27))
   have hbq : Blk (w3.alloc (.cells #[.int .i64 p.n,.slice a1 a2 a3,.slice a4 a5 a6,.slice a7 a8 a9,.slice a10 a11 a12] 27)) w3.heap.size 27 #[.int .i64 p.n,.slice a1 a2 a3,.slice a4 a5 a6,.slice a7 a8 a9,.slice a10 a11 a12] := blk_new rfl _ _
   have hbp := HBP.out.bel hb
   have HBL4 := Lib.hid (bel_trans HBL.out hb)
   clear hb hb' HBL HBP hq CE2
   obtain ⟨p0,p1,p2,p3,p4,p5⟩ := pcells hbq
   have HBP := Lib.hid hbp; clear hbp
   have HBQ := Lib.hid hbq; clear hbq
   have HQ4 := Lib.hid hq4; clear hq4
   go_wp2_with fail
   clear p0 p1 p2 p3 p4 p5
   generalize w3.alloc (.cells #[.int .i64 p.n,.slice a1 a2 a3,.slice a4 a5 a6,.slice a7 a8 a9,.slice a10 a11 a12] 27) = w4 at *
   generalize w3.heap.size = gq at *
   go_fit (CQS.out a1 a2 a3 a4 a5 a6 a7 a8 a9 a10 a11 a12 w4 HQ4.out); rintro e w5 ⟨rfl,hb'⟩
   have hb := bel_trans hb' (bel_alloc w5 (.cells #[.int .i64 0,.slice none 0 0,.slice none 0 0,.slice none 0 0,.slice none 0 0] 27))
   have hbp := HBP.out.bel hb
   have hbq := HBQ.out.bel hb
   have hq5 := HQ4.out.ext hb
   have HBL := Lib.hid (bel_trans HBL4.out hb)
   clear hb hb' HBL4 HBP HBQ HQ4
   obtain ⟨p0,p1,p2,p3,p4,p5⟩ := pcells hbq
   have HBP := Lib.hid hbp; clear hbp
   have HBQ := Lib.hid hbq; clear hbq
   have HQ5 := Lib.hid hq5; clear hq5
   go_wp2_with fail
   clear p0 p1 p2 p3 p4 p5
   generalize w5.alloc (.cells #[.int .i64 0,.slice none 0 0,.slice none 0 0,.slice none 0 0,.slice none 0 0] 27) = w6 at *
   go_fit (CQL.out a1 a2 a3 a4 a5 a6 a7 a8 a9 a10 a11 a12 w6 HQ5.out); rintro e w7 ⟨rfl,hb⟩
   have hbp := HBP.out.bel hb
   have HBL7 := Lib.hid (bel_trans HBL.out hb)
   clear hb HBL HBP HBQ HQ5
   -- r := p,one atom more
   obtain ⟨p0,p1,p2,p3,p4,p5⟩ := pcells hbp
   have c0 : (w7.alloc (.cells #[.int .i64 p.n,.slice nA nl nc,.slice sA sl sc,.slice rA rl rc,.slice mA ml mc] 27)).cell? ⟨w7.heap.size,0,none⟩ = some (.int .i64 p.n) := (Blk.new w7 27 #[.int .i64 p.n,.slice nA nl nc,.slice sA sl sc,.slice rA rl rc,.slice mA ml mc]).cell 0
   have z0 : (w7.alloc (.cells #[.int .i64 p.n,.slice nA nl nc,.slice sA sl sc,.slice rA rl rc,.slice mA ml mc] 27)).frozen? ⟨w7.heap.size,0,none⟩ = false := (Blk.new w7 27 #[.int .i64 p.n,.slice nA nl nc,.slice sA sl sc,.slice rA rl rc,.slice mA ml mc]).frozen 0
   have hbr : Blk (w7.alloc (.cells #[.int .i64 (p.n + 1),.slice nA nl nc,.slice sA sl sc,.slice rA rl rc,.slice mA ml mc] 27)) w7.heap.size 27 #[.int .i64 (p.n + 1),.slice nA nl nc,.slice sA sl sc,.slice rA rl rc,.slice mA ml mc] := blk_new rfl _ _
   have hb := bel_alloc w7 (.cells #[.int .i64 (p.n + 1),.slice nA nl nc,.slice sA sl sc,.slice rA rl rc,.slice mA ml mc] 27)
   have hbp' := hbp.bel hb
   have HBL := Lib.hid (bel_trans HBL7.out hb)
   obtain ⟨q0,q1,q2,q3,q4,q5⟩ := pcells hbr
   clear hb HBL7
   have HBP := Lib.hid hbp'
   clear hbp' hbp
   have HBR := Lib.hid hbr; clear hbr
   go_wp2_with fail
   clear p0 p1 p2 p3 p4 p5 q0 q1 q2 q3 q4 q5 c0 z0
   generalize w7.alloc (.cells #[.int .i64 (p.n + 1),.slice nA nl nc,.slice sA sl sc,.slice rA rl rc,.slice mA ml mc] 27) = w8 at *
   generalize w7.heap.size = gr at *
   go_fit (CRS.out w8 HBL.out); rintro e w9 ⟨rfl,hb'⟩
   have hb := bel_trans hb' (bel_alloc w9 (.cells #[.int .i64 0,.slice none 0 0,.slice none 0 0,.slice none 0 0,.slice none 0 0] 27))
   have hbp := HBP.out.bel hb
   have hbr := HBR.out.bel hb
   have HBL9 := Lib.hid (bel_trans HBL.out hb)
   clear hb hb' HBL HBP HBR
   obtain ⟨p0,p1,p2,p3,p4,p5⟩ := pcells hbr
   have HBP := Lib.hid hbp; clear hbp
   have HBR := Lib.hid hbr; clear hbr
   go_wp2_with fail
   clear p0 p1 p2 p3 p4 p5
   generalize w9.alloc (.cells #[.int .i64 0,.slice none 0 0,.slice none 0 0,.slice none 0 0,.slice none 0 0] 27) = w10 at *
   go_fit (CRL.out w10 HBL9.out); rintro e w11 ⟨rfl,hb⟩
   have hbp := HBP.out.bel hb
   have HBL11 := Lib.hid (bel_trans HBL9.out hb)
   clear hb HBL9 HBP HBR
   obtain ⟨p0,p1,p2,p3,p4,p5⟩ := pcells hbp
   have hi1 : SlIs intR (w11.alloc (.cells #[.int .i64 (p.n + 1)] 3)) (some ⟨w11.heap.size,0,none⟩) 1 1 [p.n + 1] := sl_ints [p.n + 1] (blk_new rfl _ _) rfl (by omega) (fun x hx => by simp at hx; subst hx; unfold I64; omega)
   have hb := bel_alloc w11 (.cells #[.int .i64 (p.n + 1)] 3)
   have hbp' := hbp.bel hb
   have HBL := Lib.hid (bel_trans HBL11.out hb)
   have cP2 := CPL.out _ HBL.out _ 1 1 hi1
   have HBP := Lib.hid hbp'
   clear hbp' hb hi1 HBL11 hbp
   have CP2 := Lib.hid cP2; clear cP2
   go_wp2_with fail
   clear p0 p1 p2 p3 p4 p5
   go_fit CP2.out; rintro e w12 ⟨rfl,hb⟩
   have hbp := HBP.out.bel hb
   have HBL12 := Lib.hid (bel_trans HBL.out hb)
   clear hb HBL HBP CP2
   obtain ⟨p0,p1,p2,p3,p4,p5⟩ := pcells hbp
   have HBP := Lib.hid hbp; clear hbp
   go_wp2_with fail
   clear p0 p1 p2 p3 p4 p5
   go_fit (CPS.out w12 HBL12.out); rintro e w13 ⟨z,c1,c2,c3,c4,c5,c6,c7,c8,c9,c10,c11,c12,rfl,hb'⟩
   have hb := bel_trans hb' (bel_alloc w13 (.cells #[.int .i64 z,.slice c1 c2 c3,.slice c4 c5 c6,.slice c7 c8 c9,.slice c10 c11 c12] 27))
   have HBL := Lib.hid (bel_trans HBL12.out hb)
   clear hb hb' HBL12 HBP
   rcases HCASE.out with ⟨rfl,rfl⟩ | ⟨rfl,rfl⟩
   ·
    go_wp2_with fail
    go_fit (CA.out _); rintro e wz ⟨rfl,hbz⟩
    have HBZ := Lib.hid (bel_trans HBL.out hbz)
    clear hbz
    go_wp2_with fail
    go_ret
    exact ⟨rfl,HBZ.out⟩
   ·
    go_wp2_with fail
    go_fit (CA.out _); rintro e wz ⟨rfl,hbz⟩
    have HBZ := Lib.hid (bel_trans HBL.out hbz)
    clear hbz
    go_wp2_with fail
    go_ret
    exact ⟨rfl,HBZ.out⟩
  ·obtain ⟨v,hve⟩ : ∃ v,v = validE p := ⟨_,rfl⟩
   rw [← hve] at cV hv
   have q1 : (v != 0) = true := by simpa using hv
   have HP := Lib.hid hp; clear hp
   have CF := Lib.hid cF; clear cF
   have CV := Lib.hid cV; clear cV
   have CA := Lib.hid cA; clear cA
   have BW := Lib.hid bW; clear bW
   have BP := Lib.hid bP; clear bP
   have HF := Lib.hid hf; clear hf
   have HV := Lib.hid hv; clear hv
   have HVE := Lib.hid hve; clear hve
   go_enter Tryz.func3,Tryz.ntmps3
   go_wp2_with fail
   go_fit (CF.out _ BW.out); rintro e w1 ⟨rfl,hb⟩
   have HBP := BP
   have HBL := BW
   have hbp := HBP.out.bel hb
   have HBL' := Lib.hid (bel_trans HBL.out hb)
   clear hb HBP HBL
   have HBL := HBL'
   clear HBL'
   obtain ⟨p0,p1,p2,p3,p4,p5⟩ := pcells hbp
   have HBP := Lib.hid hbp; clear hbp
   go_wp2_with fail
   clear p0 p1 p2 p3 p4 p5
   go_fit (CV.out _ HBL.out); rintro e w2 ⟨rfl,hb⟩
   have HBL' := Lib.hid (bel_trans HBL.out hb)
   clear hb HBL
   have HBL := HBL'
   clear HBL'
   go_wp2_with fail
   go_fit (CA.out _); rintro e wz ⟨rfl,hbz⟩
   have HBZ := Lib.hid (bel_trans HBL.out hbz)
   clear hbz
   go_wp2_with fail
   go_ret
   exact ⟨rfl,HBZ.out⟩
end Go.Proofs.YtceokdbcglbclaaGreat

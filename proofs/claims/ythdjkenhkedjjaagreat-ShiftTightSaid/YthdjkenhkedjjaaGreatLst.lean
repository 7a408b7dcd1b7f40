/- The law ShiftTight: it answers true and changes nothing that was there. Printed by mklst.py. -/
import Derived.Test.YthdjkenhkedjjaaGreatShn
import Derived.Test.YthdjkenhkedjjaaGreatGSb
import Derived.Test.YthdjkenhkedjjaaGreatInn
import Derived.Test.YthdjkenhkedjjaaGreatGU
import Derived.Test.YthdjkenhkedjjaaGreatRat
import Derived.Laws.StructEq
import Derived.Test.YthdjkenhkedjjaaGreatGSd
import Derived.Test.YthdjkenhkedjjaaGreatG4
set_option maxRecDepth 100000
set_option maxHeartbeats 8000000
namespace Go.Proofs.YthdjkenhkedjjaaGreat
theorem sfRule_length (r : GRule) (x : Int) : (sfRule r x).length = if djB r then (if r.sum then 1 else 0) + r.head.length else 1 := by
 unfold sfRule sfU
 cases djB r with
 | false => simp
 | true =>
  simp only [if_true]
  rw [List.length_append,List.length_map]
  cases r.sum <;> simp
theorem sfL_count {rs : List GRule} {i : Nat} {r : GRule} (h : rs[i]? = some r) (n : Int) : (sfL (rs.take (i + 1)) n).length = (sfL (rs.take i) n).length + (if djB r then (if r.sum then 1 else 0) + r.head.length else 1) := by
 rw [sfL_take h,List.length_append,sfRule_length]
theorem sf_again {p : GProg} (hi : ProgIs p) (hso : SfOk p) : validE (sfP p) = 0 ∧ freeB (sfP p) = true ∧ SfOk (sfP p) ∧ sfP (sfP p) = sfP p := by
 have hq := sf_is hi hso
 have hd := sf_nodj p
 obtain ⟨h1,h2⟩ := sfL_nodj (n := (sfP p).n) hd
 refine ⟨ex_validE hq,nodj_free hd,⟨?_,?_⟩,sfP_nodj hq hd⟩
 ·rw [h2]; have := (namedB_n hq.named).2; simpa using this
 ·rw [h1]; exact hq.few
theorem sf_names {p : GProg} (_hi : ProgIs p) : (sfP p).names.take p.names.length = p.names := by
 show (p.names ++ List.replicate _ ByteArray.empty).take p.names.length = p.names
 rw [List.take_append_of_le_length (Nat.le_refl _),List.take_length]
end Go.Proofs.YthdjkenhkedjjaaGreat
namespace Go.Proofs.YthdjkenhkedjjaaGreat
def noW (r : GRule) : GRule := if djB r && r.sum then { r with sum := false,w := [],bound := 0 } else r
def noP (p : GProg) : GProg := { p with rules := p.rules.map noW }
theorem noW_is {r : GRule} {n : Int} (h : RuleIs r n) : RuleIs (noW r) n := by
 unfold noW
 split
 ·exact { n0 := h.n0,n1 := h.n1,head := h.head,choice := h.choice,body := h.body,plain := fun _ => ⟨rfl,rfl⟩,wlen := fun e => (by cases e),wt := fun e => (by cases e),b0 := fun e => (by cases e),b1 := fun e => (by cases e) }
 ·exact h
theorem noP_is {p : GProg} (h : ProgIs p) : ProgIs (noP p) :=
 ⟨h.named,by show (p.rules.map noW).length ≤ 40000; rw [List.length_map]; exact h.few,fun r hr => by obtain ⟨x,hx,rfl⟩ := List.mem_map.1 hr; exact noW_is (h.rules x hx),h.mins,h.min⟩
theorem noW_sum {r : GRule} (h : djB (noW r) = true) : (noW r).sum = false := by
 unfold noW at h ⊢
 split
 ·rfl
 ·rename_i hc
  rw [if_neg hc] at h
  rw [h] at hc
  simpa using hc
theorem noP_sum (p : GProg) : ∀ r ∈ (noP p).rules,djB r = true → r.sum = false := fun r hr => by
 obtain ⟨x,_,rfl⟩ := List.mem_map.1 hr; exact noW_sum
theorem no_take {rs : List GRule} {i : Nat} {r : GRule} (h : rs[i]? = some r) : (rs.take (i + 1)).map noW = (rs.take i).map noW ++ [noW r] := by
 rw [List.take_add_one,h,List.map_append]; rfl
theorem edge_same {p q : GProg} (hn : p.n = q.n) (h : ∀ a b,EdgeP p a b ↔ EdgeP q a b) : edgeL p = edgeL q := by
 have ho : ofL p = ofL q := by
  unfold ofL
  rw [hn]
  refine List.map_congr_left fun a _ => inc_ext (comp_spec _).2 (comp_spec _).2 fun x => ?_
  rw [(comp_spec _).1,(comp_spec _).1,raw_mem,raw_mem]
  exact h a x
 unfold edgeL
 have hr : ∀ a,rowPr p a = rowPr q a := fun a => by unfold rowPr; rw [ho]
 rw [hn]
 have e : rowPr p = rowPr q := funext hr
 rw [e]
theorem edge_norm {rs : List GRule} {a b : Int} : (∃ r ∈ rs.map normR,a ∈ r.head ∧ b ∈ r.body ∧ 0 < b) ↔ ∃ r ∈ rs,a ∈ r.head ∧ b ∈ r.body ∧ 0 < b := by
 have hm : ∀ r : GRule,(a ∈ (normR r).head ↔ a ∈ r.head) ∧ (b ∈ (normR r).body ↔ b ∈ r.body) := fun r => ⟨lits_mem _ _,lits_mem _ _⟩
 constructor
 ·rintro ⟨r,hr,h⟩
  obtain ⟨x,hx,rfl⟩ := List.mem_map.1 hr
  rw [(hm x).1,(hm x).2] at h
  exact ⟨x,hx,h⟩
 ·rintro ⟨x,hx,h⟩
  rw [← (hm x).1,← (hm x).2] at h
  exact ⟨_,List.mem_map_of_mem hx,h⟩
theorem sf_edge {p : GProg} (hi : ProgIs p) (hw : ∀ r ∈ p.rules,djB r = true → r.sum = false) (a b : Int) : EdgeP (sfP p) a b ↔ EdgeP p a b := by
 unfold EdgeP
 rw [sf_rules,edge_norm]
 constructor
 ·rintro ⟨z,hz,h1,h2,h3⟩
  obtain ⟨k,r,hk,hz⟩ := sfL_at.1 hz
  have hr := List.mem_of_getElem? hk
  cases hd : djB r with
  | false => rw [sf_nd hd] at hz; subst hz; exact ⟨z,hr,h1,h2,h3⟩
  | true =>
   have hs := hw r hr hd
   rcases (sf_dj hd).1 hz with ⟨e,_⟩ | ⟨c,hc,rfl⟩
   ·rw [hs] at e; cases e
   ·have h1' : a = c := by simpa [sfH] using h1
    subst h1'
    have h2' : b ∈ sfB r (sfA p.rules p.n k) ++ sfO r a := h2
    rcases List.mem_append.1 h2' with h | h
    ·unfold sfB at h; rw [hs] at h; exact ⟨r,hr,hc,by simpa using h,h3⟩
    ·obtain ⟨o,ho,_,rfl⟩ := sfO_mem.1 h
     have := (inc_mem (hi.rules r hr).head o ho).1
     omega
 ·rintro ⟨r,hr,h1,h2,h3⟩
  obtain ⟨k,hk⟩ := List.getElem?_of_mem hr
  cases hd : djB r with
  | false => exact ⟨r,sfL_at.2 ⟨k,r,hk,by rw [sf_nd hd]⟩,h1,h2,h3⟩
  | true =>
   have hs := hw r hr hd
   refine ⟨sfH r (sfA p.rules p.n k) a,sfL_at.2 ⟨k,r,hk,(sf_dj hd).2 (.inr ⟨a,h1,rfl⟩)⟩,by simp [sfH],?_,h3⟩
   show b ∈ sfB r _ ++ sfO r a
   unfold sfB; rw [hs]
   exact List.mem_append_left _ (by simpa using h2)
theorem sfC_zero : ∀ {rs : List GRule},(∀ r ∈ rs,djB r = true → r.sum = false) → sfC rs = 0
 | [],_ => rfl
 | r :: t,h => by
  have ih := sfC_zero (rs := t) fun x hx => h x (by simp [hx])
  unfold sfC
  rw [ih]
  unfold sfN
  cases hd : djB r with
  | false => simp
  | true => rw [h r (by simp) hd]; simp
theorem sf_edges {p : GProg} (hi : ProgIs p) (hw : ∀ r ∈ p.rules,djB r = true → r.sum = false) : (sfP p).n = p.n ∧ edgeL (sfP p) = edgeL p := by
 have hn : (sfP p).n = p.n := by rw [sfP_n,sfC_zero hw]; simp
 exact ⟨hn,edge_same hn (sf_edge hi hw)⟩
theorem sf_get {p : GProg} {i k : Nat} {r z : GRule} (hri : p.rules[i]? = some r) (hz : (sfRule r (sfA p.rules p.n i))[k]? = some z) : (sfP p).rules[(sfL (p.rules.take i) p.n).length + k]? = some (normR z) := by
 rw [sf_rules,List.getElem?_map]
 obtain ⟨t,ht⟩ := sfL_pre p.rules p.n (i + 1)
 have hk : k < (sfRule r (sfA p.rules p.n i)).length := by
  rcases Nat.lt_or_ge k (sfRule r (sfA p.rules p.n i)).length with h | h
  ·exact h
  ·rw [List.getElem?_eq_none h] at hz; cases hz
 rw [sfL_take hri] at ht
 have hz' : (sfRule r (p.n + (sfC (p.rules.take i) : Int) + 1))[k]? = some z := hz
 have hk' : k < (sfRule r (p.n + (sfC (p.rules.take i) : Int) + 1)).length := hk
 rw [← ht,List.append_assoc,List.getElem?_append_right (by omega),Nat.add_sub_cancel_left,List.getElem?_append_left hk',hz']; rfl
theorem in_of {xs ys : List Int} (h : ∀ x ∈ xs,x ∈ ys) : inB xs ys = true := by
 unfold inB
 rw [List.all_eq_true]
 exact fun x hx => by simpa using h x hx
theorem tight_dj {p : GProg} (hi : ProgIs p) (hw : ∀ r ∈ p.rules,djB r = true → r.sum = false) {i k : Nat} {r : GRule} {h : Int} (hri : p.rules[i]? = some r) (hd : djB r = true) (hh : r.head[k]? = some h) :
  ∃ s,(sfP p).rules[(sfL (p.rules.take i) p.n).length + k]? = some s ∧ s.head = [h] ∧ (∀ (j : Nat) (o : Int),r.head[j]? = some o → j ≠ k → inB [-o] s.body = true) ∧ inB r.body s.body = true := by
 have hs := hw r (List.mem_of_getElem? hri) hd
 have hz : (sfRule r (sfA p.rules p.n i))[k]? = some (sfH r (sfA p.rules p.n i) h) := by
  unfold sfRule sfU
  rw [if_pos hd,hs,if_neg (by decide),List.nil_append,List.getElem?_map,hh]; rfl
 have hb : ∀ x,x ∈ (normR (sfH r (sfA p.rules p.n i) h)).body ↔ x ∈ r.body ∨ x ∈ sfO r h := fun x => by
  have h1 : x ∈ (normR (sfH r (sfA p.rules p.n i) h)).body ↔ x ∈ (sfH r (sfA p.rules p.n i) h).body := lits_mem _ _
  rw [h1]
  show x ∈ sfB r _ ++ sfO r h ↔ _
  unfold sfB
  rw [hs,List.mem_append]; simp
 refine ⟨_,sf_get hri hz,?_,fun j o hj hjk => in_of fun x hx => ?_,in_of fun x hx => ?_⟩
 ·show litsOf [h] = [h]
  exact lits_id (by simp)
 ·have e : x = -o := by simpa using hx
  subst e
  rw [hb]
  refine .inr (sfO_mem.2 ⟨o,List.mem_of_getElem? hj,fun e => hjk ?_,rfl⟩)
  subst e
  have hp := inc_pair (hi.rules r (List.mem_of_getElem? hri)).head
  obtain ⟨h1,h2⟩ := List.getElem?_eq_some_iff.1 hj
  obtain ⟨h3,h4⟩ := List.getElem?_eq_some_iff.1 hh
  rcases Nat.lt_trichotomy j k with c | c | c
  ·have := List.pairwise_iff_getElem.1 hp j k h1 h3 c; omega
  ·exact c
  ·have := List.pairwise_iff_getElem.1 hp k j h3 h1 c; omega
 ·rw [hb]; exact .inl hx
theorem tight_nd {p : GProg} {i : Nat} {r : GRule} (hri : p.rules[i]? = some r) (hd : djB r = false) : ∃ s,(sfP p).rules[(sfL (p.rules.take i) p.n).length]? = some s ∧ inB r.body s.body = true := by
 have hz : (sfRule r (sfA p.rules p.n i))[0]? = some r := by unfold sfRule; rw [if_neg (by rw [hd]; decide)]; rfl
 exact ⟨_,sf_get hri hz,in_of fun x hx => (lits_mem _ _).2 hx⟩
theorem tight_all {p : GProg} (hi : ProgIs p) (hw : ∀ r ∈ p.rules,djB r = true → r.sum = false) {i k mn : Nat} {r : GRule} (hri : p.rules[i]? = some r) (hmn : mn = if r.choice then 1 else max 1 r.head.length) (hk : k < mn) :
  ∃ s,(sfP p).rules[(sfL (p.rules.take i) p.n).length + k]? = some s ∧ inB r.body s.body = true ∧ (1 < mn → ∀ (j : Nat) (o : Int),r.head[j]? = some o → (j ≠ k → inB [-o] s.body = true) ∧ (j = k → s.head = [o])) := by
 cases hd : djB r with
 | true =>
  have hc := dj_choice hd
  have hl := dj_len hd
  rw [hc] at hmn
  simp only [if_false,Bool.false_eq_true] at hmn
  obtain ⟨h,hh⟩ : ∃ h,r.head[k]? = some h := ⟨_,List.getElem?_eq_getElem (by omega)⟩
  obtain ⟨s,h1,h2,h3,h4⟩ := tight_dj hi hw hri hd hh
  refine ⟨s,h1,h4,fun _ j o hj => ⟨h3 j o hj,fun e => ?_⟩⟩
  subst e
  rw [hj] at hh; cases hh; exact h2
 | false =>
  have h1 : mn = 1 := by
   unfold djB at hd
   rw [hmn]
   cases hc : r.choice with
   | true => rfl
   | false =>
    rw [hc] at hd
    have : ¬ 1 < r.head.length := by simpa using hd
    simp only [if_false,Bool.false_eq_true]; omega
  obtain ⟨s,h2,h3⟩ := tight_nd hri hd
  refine ⟨s,?_,h3,fun h => by omega⟩
  rw [show k = 0 by omega]; exact h2
end Go.Proofs.YthdjkenhkedjjaaGreat
namespace Go.Proofs.YthdjkenhkedjjaaGreat
open Go.RowKit
theorem eq_pairT (a b c d : Int) (w : World) : (Op.equalIn 10000 48 (.agg #[.int .i64 a,.int .i64 b]) (.agg #[.int .i64 c,.int .i64 d])).run Tryz.prog w = .ok (decide ((a,b) = (c,d))) w := by
 have u3 := Tryz.underlying3
 have a3 := Tryz.isAgg3
 have z3 := Tryz.sizeOf3
 rw [show (10000 : Nat) = 9999 + 1 from rfl,Op.equalIn]
 simp only [Sem.run_bind,run_underlying Tryz.underlying48,Result.andThen_ok]
 simp only [Std.Legacy.Range.forIn_eq_forIn_range',Std.Legacy.Range.size,Nat.sub_zero,Nat.add_sub_cancel,Nat.div_one,List.range'_succ,List.range'_zero,List.forIn_cons,List.forIn_nil]
 go_simp
 by_cases h1 : a = c <;> by_cases h2 : b = d <;> simp [h1,h2]
end Go.Proofs.YthdjkenhkedjjaaGreat
namespace Go.Proofs.YthdjkenhkedjjaaGreat
open Go.RowKit
theorem few_small4 {p : GProg} (hf : fewB p = true) : p.n ≤ 12 ∧ p.rules.length ≤ 16 := by
  unfold fewB at hf
  simp only [Bool.and_eq_true,decide_eq_true_eq] at hf
  refine ⟨hf.1.1.1.1.1,?_⟩
  omega
theorem rcells23 {W : World} {g : Nat} {v0 v1 v2 v3 v4 v5 : Value} (h : Blk W g 42 #[v0,v1,v2,v3,v4,v5]) : W.cell? ⟨g,0,none⟩ = some v0 ∧ W.cell? ⟨g,1,none⟩ = some v1 ∧ W.cell? ⟨g,2,none⟩ = some v2 ∧ W.cell? ⟨g,3,none⟩ = some v3 ∧ W.cell? ⟨g,4,none⟩ = some v4 ∧ W.cell? ⟨g,5,none⟩ = some v5 :=
  ⟨h.cell 0,h.cell 1,h.cell 2,h.cell 3,h.cell 4,h.cell 5⟩
structure CtS (w : World) (g B : Nat) (v0 v1 v2 v4 : Value) (xs : List GRule) (A : Option Addr) (l c : Nat) (W : World) : Prop where
  own : OwnB ruleR 42 w B W (.slice A l c) xs
  len : l = xs.length
  box : Blk W g 27 #[v0,v1,v2,.slice A l c,v4]
  ne : (Value.slice A l c).ownBlock ≠ some g
theorem CtS.bel {w : World} {g B : Nat} {v0 v1 v2 v4 : Value} {xs : List GRule} {A : Option Addr} {l c : Nat} {W W' : World} (h : CtS w g B v0 v1 v2 v4 xs A l c W) (hb : Below W.heap.size W W') : CtS w g B v0 v1 v2 v4 xs A l c W' := ⟨h.own.bel hb,h.len,h.box.bel hb,h.ne⟩
theorem count_many {p : GProg} (hw : ∀ r ∈ p.rules,djB r = true → r.sum = false) {i : Nat} {r : GRule} (h : p.rules[i]? = some r) (n : Int) : (sfL (p.rules.take (i + 1)) n).length = (sfL (p.rules.take i) n).length + (if r.choice then 1 else max 1 r.head.length) := by
  rw [sfL_count h]
  cases hd : djB r with
  | true =>
    rw [hw r (List.mem_of_getElem? h) hd,dj_choice hd]
    have := dj_len hd
    simp only [if_true,if_false,Bool.false_eq_true]; omega
  | false =>
    unfold djB at hd
    cases hc : r.choice with
    | true => simp
    | false =>
      rw [hc] at hd
      have : ¬ 1 < r.head.length := by simpa using hd
      simp only [if_false,Bool.false_eq_true]; omega
theorem shiftTight_any (p : GProg) (nA : Option Addr) (nl nc : Nat) (sA : Option Addr) (sl sc : Nat) (rA : Option Addr) (rl rc : Nat) (mA : Option Addr) (ml mc : Nat) (w : World) (hp : ProgIn w p nA nl nc sA sl sc rA rl rc mA ml mc) :
    Calls Tryz.prog 5 #[.agg #[.int .i64 p.n,.slice nA nl nc,.slice sA sl sc,.slice rA rl rc,.slice mA ml mc]] w fun e w' => e = .returned (.bool true) ∧ Below w.heap.size w w' := by
  have cF := fun W (hb : Below w.heap.size w W) => few_any p nA nl nc sA sl sc rA rl rc mA ml mc W (hp.ext hb)
  have cV := fun W (hb : Below w.heap.size w W) => valid_any p nA nl nc sA sl sc rA rl rc mA ml mc W (hp.ext hb)
  have cA := awake22_any
  have bW := bel_alloc w (.cells #[.int .i64 p.n,.slice nA nl nc,.slice sA sl sc,.slice rA rl rc,.slice mA ml mc] 27)
  have bP : Blk (w.alloc (.cells #[.int .i64 p.n,.slice nA nl nc,.slice sA sl sc,.slice rA rl rc,.slice mA ml mc] 27)) w.heap.size 27 #[.int .i64 p.n,.slice nA nl nc,.slice sA sl sc,.slice rA rl rc,.slice mA ml mc] := blk_new rfl _ _
  cases hf : fewB p with
  | false =>
    rw [hf] at cF
    obtain ⟨HP,CF,CV,CA,BW,BP,HF⟩ := hd7 hp cF cV cA bW bP hf; clear hp cF cV cA bW bP hf
    go_enter Tryz.func5,Tryz.ntmps5
    go_wp2_with fail
    go_fit (CF.out _ BW.out); rintro e w1 ⟨rfl,hb⟩
    have HBL := Lib.hid (bel_trans BW.out hb)
    clear hb
    go_wp2_with fail
    go_fit (CA.out _); rintro e wz ⟨rfl,hbz⟩
    have HBZ := Lib.hid (bel_trans HBL.out hbz)
    clear hbz
    go_wp2_with fail
    go_ret
    exact ⟨rfl,HBZ.out⟩
  | true =>
    rw [hf] at cF
    by_cases hv : validE p = 0
    · rw [hv] at cV
      have hpi := validE_is hv
      have hn := namedB_n hpi.named
      have hfs := few_small4 hf
      have hci := noP_is hpi
      have hcv := ex_validE hci
      have hso : SfOk (noP p) := sf_small hci hfs.1 (by show (p.rules.map noW).length ≤ 20; rw [List.length_map]; omega)
      have hws := noP_sum p
      have hed := sf_edges hci hws
      have hvq := ex_validE (sf_is hci hso)
      have hrl := hp.rules.len
      have hrc := hp.rules.cap
      have hrm := hp.rules.max
      have hr16 := hfs.2
      obtain ⟨HP,CF,CV,CA,BW,BP,HF,HV,HPI,HN,HFS,HCI⟩ := hd12 hp cF cV cA bW bP hf hv hpi hn hfs hci; clear hp cF cV cA bW bP hf hv hpi hn hfs hci
      obtain ⟨HCV,HSO,HWS,HED,HVQ,HRL⟩ := hd6 hcv hso hws hed hvq hrl; clear hcv hso hws hed hvq hrl
      go_enter Tryz.func5,Tryz.ntmps5
      go_wp2_with fail
      go_fit (CF.out _ BW.out); rintro e w1 ⟨rfl,hb⟩
      have HBP := BP
      have HBL := BW
      have hbp := HBP.out.bel hb
      have HBL' := Lib.hid (bel_trans HBL.out hb)
      clear hb HBP HBL
      have HBL := HBL'
      clear HBL'
      obtain ⟨p0,p1,p2,p3,p4,p5⟩ := pcells hbp
      have HBP := Lib.hid hbp; clear hbp
      go_wp2_with fail
      clear p0 p1 p2 p3 p4 p5
      go_fit (CV.out _ HBL.out); rintro e w2 ⟨rfl,hb⟩
      have hbp := HBP.out.bel hb
      have hbl := bel_trans HBL.out hb
      clear hb HBP HBL
      obtain ⟨p0,p1,p2,p3,p4,p5⟩ := pcells hbp
      have hS : CtS w w2.heap.size (w2.heap.size + 1) (.int .i64 p.n) (.slice nA nl nc) (.slice sA sl sc) (.slice mA ml mc) ((p.rules.take 0).map noW) none 0 0 (w2.alloc (.cells #[.int .i64 p.n,.slice nA nl nc,.slice sA sl sc,.slice none 0 0,.slice mA ml mc] 27)) :=
        ⟨OwnB.nil (bel_trans hbl (bel_alloc _ _)) (by have := hbl.size; omega) (by simp),rfl,blk_new rfl _ _,by simp [Value.ownBlock]⟩
      have hbp3 := hbp.bel (bel_alloc w2 (.cells #[.int .i64 p.n,.slice nA nl nc,.slice sA sl sc,.slice none 0 0,.slice mA ml mc] 27))
      have z3 : (w2.alloc (.cells #[.int .i64 p.n,.slice nA nl nc,.slice sA sl sc,.slice rA rl rc,.slice mA ml mc] 27)).frozen? ⟨w2.heap.size,3,none⟩ = false := (Blk.new w2 27 #[.int .i64 p.n,.slice nA nl nc,.slice sA sl sc,.slice rA rl rc,.slice mA ml mc]).frozen 3
      have c3 : (w2.alloc (.cells #[.int .i64 p.n,.slice nA nl nc,.slice sA sl sc,.slice rA rl rc,.slice mA ml mc] 27)).cell? ⟨w2.heap.size,3,none⟩ = some (.slice rA rl rc) := (Blk.new w2 27 #[.int .i64 p.n,.slice nA nl nc,.slice sA sl sc,.slice rA rl rc,.slice mA ml mc]).cell 3
      have r3 : (w2.alloc (.cells #[.int .i64 p.n,.slice nA nl nc,.slice sA sl sc,.slice none 0 0,.slice mA ml mc] 27)).cell? ⟨w.heap.size,3,none⟩ = some (.slice rA rl rc) := hbp3.cell 3
      have hwz : w.heap.size ≤ w2.heap.size := hbl.size
      obtain ⟨HBP,HBL,HS,HBP3⟩ := hd4 hbp hbl hS hbp3; clear hbp hbl hS hbp3
      go_wp2_with fail
      clear p0 p1 p2 p3 p4 p5 z3 c3 r3
      generalize w2.alloc (.cells #[.int .i64 p.n,.slice nA nl nc,.slice sA sl sc,.slice none 0 0,.slice mA ml mc] 27) = W3 at *
      go_loopw [35] (fun t wr => ∃ (i : Nat) (A : Option Addr) (l c : Nat),i ≤ rl ∧ t = .int .i64 (i : Int) ∧ CtS w w2.heap.size (w2.heap.size + 1) (.int .i64 p.n) (.slice nA nl nc) (.slice sA sl sc) (.slice mA ml mc) ((p.rules.take i).map noW) A l c wr) (fun t _ => rl - (intOf t).toNat)
      case atStart => exact ⟨0,none,0,0,Nat.zero_le _,rfl,HS.out⟩
      case round =>
        obtain ⟨i,A,l,c,hi,rfl,hs⟩ := hrel
        obtain ⟨wo,rfl⟩ : ∃ wo : World,wo = wr := ⟨_,rfl⟩
        by_cases hlt : i < rl
        · obtain ⟨r,hri,-⟩ := HP.out.rules.drop hlt
          obtain ⟨bb,off,hA,hl,hc,bA,bl,bc,wA,wl,wc,rfl,hbl2,x0,x1,x2,x3,x4,x5,g1,g2,g3,g4⟩ := HP.out.rules.rule hri
          have hbw := hs.own.below
          have d0 := (hbw.cell (World.block_lt_of_cell? _ _ x0)).trans x0
          have d1 := (hbw.cell (World.block_lt_of_cell? _ _ x1)).trans x1
          have d2 := (hbw.cell (World.block_lt_of_cell? _ _ x2)).trans x2
          have d3 := (hbw.cell (World.block_lt_of_cell? _ _ x3)).trans x3
          have d4 := (hbw.cell (World.block_lt_of_cell? _ _ x4)).trans x4
          have d5 := (hbw.cell (World.block_lt_of_cell? _ _ x5)).trans x5
          clear x0 x1 x2 x3 x4 x5
          have k0 : (0 : Int) ≤ (i : Int) := by omega
          have k1 : (i : Int) < (rl : Int) := by omega
          have hgl1 := g1.len
          have hst := no_take hri
          obtain ⟨ch,hch⟩ : ∃ ch,r.choice = ch := ⟨_,rfl⟩
          obtain ⟨sm,hsm⟩ : ∃ sm,r.sum = sm := ⟨_,rfl⟩
          rw [hch] at d0
          rw [hsm] at d2
          have hlen0 := hs.len
          have hli : l = i := by rw [hlen0,List.length_map,List.length_take]; have := HRL.out; omega
          have hgl := hs.box.lt
          by_cases hds : ch = false ∧ 1 < hl ∧ sm = true
          · obtain ⟨rfl,hl1,rfl⟩ := hds
            have hl1' : (1 : Int) < (hl : Int) := by omega
            have hcr : noW r = { r with sum := false,w := [],bound := 0 } := by
              unfold noW djB
              rw [hch,hsm,decide_eq_true (by omega)]; rfl
            have hel : ruleR.is w [.bool false,.slice hA hl hc,.bool false,.int .i64 0,.slice bA bl bc,.slice none 0 0] (noW r) := by rw [hcr]; exact ⟨_,_,_,by rw [← hch],ints_of g1,(by show I64 0; unfold I64; omega),ints_of g3,ints_of (SlIs.nil intR w)⟩
            have a0 : (wo.alloc (.cells #[.bool false,.slice hA hl hc,.bool true,.int .i64 r.bound,.slice bA bl bc,.slice wA wl wc] 42)).cell? ⟨wo.heap.size,0,none⟩ = some (.bool false) := (Blk.new wo 42 #[.bool false,.slice hA hl hc,.bool true,.int .i64 r.bound,.slice bA bl bc,.slice wA wl wc]).cell 0
            have a1 : (wo.alloc (.cells #[.bool false,.slice hA hl hc,.bool true,.int .i64 r.bound,.slice bA bl bc,.slice wA wl wc] 42)).cell? ⟨wo.heap.size,1,none⟩ = some (.slice hA hl hc) := (Blk.new wo 42 #[.bool false,.slice hA hl hc,.bool true,.int .i64 r.bound,.slice bA bl bc,.slice wA wl wc]).cell 1
            have a2 : (wo.alloc (.cells #[.bool false,.slice hA hl hc,.bool true,.int .i64 r.bound,.slice bA bl bc,.slice wA wl wc] 42)).cell? ⟨wo.heap.size,2,none⟩ = some (.bool true) := (Blk.new wo 42 #[.bool false,.slice hA hl hc,.bool true,.int .i64 r.bound,.slice bA bl bc,.slice wA wl wc]).cell 2
            have a3 : (wo.alloc (.cells #[.bool false,.slice hA hl hc,.bool true,.int .i64 r.bound,.slice bA bl bc,.slice wA wl wc] 42)).frozen? ⟨wo.heap.size,2,none⟩ = false := (Blk.new wo 42 #[.bool false,.slice hA hl hc,.bool true,.int .i64 r.bound,.slice bA bl bc,.slice wA wl wc]).frozen 2
            have a4 : (wo.alloc (.cells #[.bool false,.slice hA hl hc,.bool false,.int .i64 r.bound,.slice bA bl bc,.slice wA wl wc] 42)).cell? ⟨wo.heap.size,5,none⟩ = some (.slice wA wl wc) := (Blk.new wo 42 #[.bool false,.slice hA hl hc,.bool false,.int .i64 r.bound,.slice bA bl bc,.slice wA wl wc]).cell 5
            have a5 : (wo.alloc (.cells #[.bool false,.slice hA hl hc,.bool false,.int .i64 r.bound,.slice bA bl bc,.slice wA wl wc] 42)).frozen? ⟨wo.heap.size,5,none⟩ = false := (Blk.new wo 42 #[.bool false,.slice hA hl hc,.bool false,.int .i64 r.bound,.slice bA bl bc,.slice wA wl wc]).frozen 5
            have a6 : (wo.alloc (.cells #[.bool false,.slice hA hl hc,.bool false,.int .i64 r.bound,.slice bA bl bc,.slice none 0 0] 42)).cell? ⟨wo.heap.size,3,none⟩ = some (.int .i64 r.bound) := (Blk.new wo 42 #[.bool false,.slice hA hl hc,.bool false,.int .i64 r.bound,.slice bA bl bc,.slice none 0 0]).cell 3
            have a7 : (wo.alloc (.cells #[.bool false,.slice hA hl hc,.bool false,.int .i64 r.bound,.slice bA bl bc,.slice none 0 0] 42)).frozen? ⟨wo.heap.size,3,none⟩ = false := (Blk.new wo 42 #[.bool false,.slice hA hl hc,.bool false,.int .i64 r.bound,.slice bA bl bc,.slice none 0 0]).frozen 3
            have hlx : ((p.rules.take i).map noW).length = i := by rw [← hlen0,hli]
            have hi16 : rl ≤ 16 := by have := HRL.out; omega
            obtain ⟨v',w6,hrun,own6,hg6,hat6⟩ := (hs.bel (bel_alloc wo (.cells #[.bool false,.slice hA hl hc,.bool false,.int .i64 0,.slice bA bl bc,.slice none 0 0] 42))).own.app1 ety_rule (#[.bool false,.slice hA hl hc,.bool false,.int .i64 0,.slice bA bl bc,.slice none 0 0] : Array Value).toList (noW r) hel (by omega) 24
            obtain ⟨l',hl'⟩ : ∃ l',l' = ((p.rules.take i).map noW ++ [noW r]).length := ⟨_,rfl⟩
            have hlb : ((p.rules.take i).map noW ++ [noW r]).length ≤ 1000 := by rw [List.length_append,hlx]; simp; omega
            obtain ⟨A',c',rfl,-⟩ := own6.sl (by omega)
            rw [← hl'] at hrun own6 hat6
            have hs5 := hs.bel (bel_alloc wo (.cells #[.bool false,.slice hA hl hc,.bool false,.int .i64 0,.slice bA bl bc,.slice none 0 0] 42))
            have b6 := (grown_kept hg6).blk hs5.box (fun e => hs5.ne (by simpa using e))
            have k4 : (wo.alloc (.cells #[.bool false,.slice hA hl hc,.bool false,.int .i64 0,.slice bA bl bc,.slice none 0 0] 42)).cell? ⟨w2.heap.size,3,none⟩ = some (.slice A l c) := hs5.box.cell 3
            have k6 : w6.cell? ⟨w2.heap.size,3,none⟩ = some (.slice A l c) := b6.cell 3
            have z6 : w6.frozen? ⟨w2.heap.size,3,none⟩ = false := b6.frozen 3
            have hbc : Blk (wo.alloc (.cells #[.bool false,.slice hA hl hc,.bool false,.int .i64 0,.slice bA bl bc,.slice none 0 0] 42)) wo.heap.size 42 #[.bool false,.slice hA hl hc,.bool false,.int .i64 0,.slice bA bl bc,.slice none 0 0] := blk_new rfl _ _
            obtain ⟨q0,q1,q2,q3,q4,q5⟩ := rcells23 hbc
            have hne6 : (Value.slice A' l' c').ownBlock ≠ some w2.heap.size := fun e => by
              rcases hat6 _ e with h | h
              · exact hs5.ne h
              · rw [World.size_alloc] at h; omega
            have kk : Kept [w2.heap.size] w6 (w6.setCell ⟨w2.heap.size,3,none⟩ (.slice A' l' c')) := (Kept.refl _ _).set (.inl (by simp)) _
            have sh7 : CtS w w2.heap.size (w2.heap.size + 1) (.int .i64 p.n) (.slice nA nl nc) (.slice sA sl sc) (.slice mA ml mc) ((p.rules.take (i + 1)).map noW) A' l' c' (w6.setCell ⟨w2.heap.size,3,none⟩ (.slice A' l' c')) := by
              rw [hst]
              exact ⟨own6.kept kk (fun k hk => by simp at hk; subst hk; exact ⟨hwz,hne6⟩),hl',b6.set_ 3 _,hne6⟩
            rw [World.size_alloc] at hrun
            obtain ⟨HLX,HS,HRUN,OWN6,HG6,HAT6,HS5,B6,HBC,HNE6,KK,SH7⟩ := hd12 hlx hs hrun own6 hg6 hat6 hs5 b6 hbc hne6 kk sh7; clear hlx hs hrun own6 hg6 hat6 hs5 b6 hbc hne6 kk sh7
            obtain ⟨HL',HLB,HEL,HCR,HST,HCH,HSM,HLEN0,HLI,HGL1,G1,G2⟩ := hd12 hl' hlb hel hcr hst hch hsm hlen0 hli hgl1 g1 g2; clear hl' hlb hel hcr hst hch hsm hlen0 hli hgl1 g1 g2
            obtain ⟨G3,G4,HRI,HBW⟩ := hd4 g3 g4 hri hbw; clear g3 g4 hri hbw
            go_wp2_with (at_builtin; refine wpList_append_run rfl _ _ _ rfl _ _ rfl rfl _ _ HRUN.out ?_)
            go_roundw
            case rel => exact ⟨i + 1,A',l',c',by omega,by go_num,SH7.out⟩
            case measure => simp [intOf]; omega
          · have hcr : noW r = r := by
              unfold noW djB
              rw [hch,hsm]
              refine if_neg fun h => hds ?_
              simp only [Bool.and_eq_true,Bool.not_eq_true',decide_eq_true_eq] at h
              exact ⟨h.1.1,by omega,h.2⟩
            have hel : ruleR.is w [.bool ch,.slice hA hl hc,.bool sm,.int .i64 r.bound,.slice bA bl bc,.slice wA wl wc] (noW r) := by rw [hcr]; exact ⟨_,_,_,by rw [hch,hsm],ints_of g1,g2,ints_of g3,ints_of g4⟩
            cases ch with
            | true =>
              clear hds
              have hlx : ((p.rules.take i).map noW).length = i := by rw [← hlen0,hli]
              have hi16 : rl ≤ 16 := by have := HRL.out; omega
              obtain ⟨v',w6,hrun,own6,hg6,hat6⟩ := (hs.bel (bel_alloc wo (.cells #[.bool true,.slice hA hl hc,.bool sm,.int .i64 r.bound,.slice bA bl bc,.slice wA wl wc] 42))).own.app1 ety_rule (#[.bool true,.slice hA hl hc,.bool sm,.int .i64 r.bound,.slice bA bl bc,.slice wA wl wc] : Array Value).toList (noW r) hel (by omega) 24
              obtain ⟨l',hl'⟩ : ∃ l',l' = ((p.rules.take i).map noW ++ [noW r]).length := ⟨_,rfl⟩
              have hlb : ((p.rules.take i).map noW ++ [noW r]).length ≤ 1000 := by rw [List.length_append,hlx]; simp; omega
              obtain ⟨A',c',rfl,-⟩ := own6.sl (by omega)
              rw [← hl'] at hrun own6 hat6
              have hs5 := hs.bel (bel_alloc wo (.cells #[.bool true,.slice hA hl hc,.bool sm,.int .i64 r.bound,.slice bA bl bc,.slice wA wl wc] 42))
              have b6 := (grown_kept hg6).blk hs5.box (fun e => hs5.ne (by simpa using e))
              have k4 : (wo.alloc (.cells #[.bool true,.slice hA hl hc,.bool sm,.int .i64 r.bound,.slice bA bl bc,.slice wA wl wc] 42)).cell? ⟨w2.heap.size,3,none⟩ = some (.slice A l c) := hs5.box.cell 3
              have k6 : w6.cell? ⟨w2.heap.size,3,none⟩ = some (.slice A l c) := b6.cell 3
              have z6 : w6.frozen? ⟨w2.heap.size,3,none⟩ = false := b6.frozen 3
              have hbc : Blk (wo.alloc (.cells #[.bool true,.slice hA hl hc,.bool sm,.int .i64 r.bound,.slice bA bl bc,.slice wA wl wc] 42)) wo.heap.size 42 #[.bool true,.slice hA hl hc,.bool sm,.int .i64 r.bound,.slice bA bl bc,.slice wA wl wc] := blk_new rfl _ _
              obtain ⟨q0,q1,q2,q3,q4,q5⟩ := rcells23 hbc
              have hne6 : (Value.slice A' l' c').ownBlock ≠ some w2.heap.size := fun e => by
                rcases hat6 _ e with h | h
                · exact hs5.ne h
                · rw [World.size_alloc] at h; omega
              have kk : Kept [w2.heap.size] w6 (w6.setCell ⟨w2.heap.size,3,none⟩ (.slice A' l' c')) := (Kept.refl _ _).set (.inl (by simp)) _
              have sh7 : CtS w w2.heap.size (w2.heap.size + 1) (.int .i64 p.n) (.slice nA nl nc) (.slice sA sl sc) (.slice mA ml mc) ((p.rules.take (i + 1)).map noW) A' l' c' (w6.setCell ⟨w2.heap.size,3,none⟩ (.slice A' l' c')) := by
                rw [hst]
                exact ⟨own6.kept kk (fun k hk => by simp at hk; subst hk; exact ⟨hwz,hne6⟩),hl',b6.set_ 3 _,hne6⟩
              rw [World.size_alloc] at hrun
              obtain ⟨HLX,HS,HRUN,OWN6,HG6,HAT6,HS5,B6,HBC,HNE6,KK,SH7⟩ := hd12 hlx hs hrun own6 hg6 hat6 hs5 b6 hbc hne6 kk sh7; clear hlx hs hrun own6 hg6 hat6 hs5 b6 hbc hne6 kk sh7
              obtain ⟨HL',HLB,HEL,HCR,HST,HCH,HSM,HLEN0,HLI,HGL1,G1,G2⟩ := hd12 hl' hlb hel hcr hst hch hsm hlen0 hli hgl1 g1 g2; clear hl' hlb hel hcr hst hch hsm hlen0 hli hgl1 g1 g2
              obtain ⟨G3,G4,HRI,HBW⟩ := hd4 g3 g4 hri hbw; clear g3 g4 hri hbw
              go_wp2_with (at_builtin; refine wpList_append_run rfl _ _ _ rfl _ _ rfl rfl _ _ HRUN.out ?_)
              go_roundw
              case rel => exact ⟨i + 1,A',l',c',by omega,by go_num,SH7.out⟩
              case measure => simp [intOf]; omega
            | false =>
              by_cases hl1 : 1 < hl
              · have hl1' : (1 : Int) < (hl : Int) := by omega
                cases sm with
                | true => exact absurd ⟨rfl,hl1,rfl⟩ hds
                | false =>
                  clear hds
                  have hlx : ((p.rules.take i).map noW).length = i := by rw [← hlen0,hli]
                  have hi16 : rl ≤ 16 := by have := HRL.out; omega
                  obtain ⟨v',w6,hrun,own6,hg6,hat6⟩ := (hs.bel (bel_alloc wo (.cells #[.bool false,.slice hA hl hc,.bool false,.int .i64 r.bound,.slice bA bl bc,.slice wA wl wc] 42))).own.app1 ety_rule (#[.bool false,.slice hA hl hc,.bool false,.int .i64 r.bound,.slice bA bl bc,.slice wA wl wc] : Array Value).toList (noW r) hel (by omega) 24
                  obtain ⟨l',hl'⟩ : ∃ l',l' = ((p.rules.take i).map noW ++ [noW r]).length := ⟨_,rfl⟩
                  have hlb : ((p.rules.take i).map noW ++ [noW r]).length ≤ 1000 := by rw [List.length_append,hlx]; simp; omega
                  obtain ⟨A',c',rfl,-⟩ := own6.sl (by omega)
                  rw [← hl'] at hrun own6 hat6
                  have hs5 := hs.bel (bel_alloc wo (.cells #[.bool false,.slice hA hl hc,.bool false,.int .i64 r.bound,.slice bA bl bc,.slice wA wl wc] 42))
                  have b6 := (grown_kept hg6).blk hs5.box (fun e => hs5.ne (by simpa using e))
                  have k4 : (wo.alloc (.cells #[.bool false,.slice hA hl hc,.bool false,.int .i64 r.bound,.slice bA bl bc,.slice wA wl wc] 42)).cell? ⟨w2.heap.size,3,none⟩ = some (.slice A l c) := hs5.box.cell 3
                  have k6 : w6.cell? ⟨w2.heap.size,3,none⟩ = some (.slice A l c) := b6.cell 3
                  have z6 : w6.frozen? ⟨w2.heap.size,3,none⟩ = false := b6.frozen 3
                  have hbc : Blk (wo.alloc (.cells #[.bool false,.slice hA hl hc,.bool false,.int .i64 r.bound,.slice bA bl bc,.slice wA wl wc] 42)) wo.heap.size 42 #[.bool false,.slice hA hl hc,.bool false,.int .i64 r.bound,.slice bA bl bc,.slice wA wl wc] := blk_new rfl _ _
                  obtain ⟨q0,q1,q2,q3,q4,q5⟩ := rcells23 hbc
                  have hne6 : (Value.slice A' l' c').ownBlock ≠ some w2.heap.size := fun e => by
                    rcases hat6 _ e with h | h
                    · exact hs5.ne h
                    · rw [World.size_alloc] at h; omega
                  have kk : Kept [w2.heap.size] w6 (w6.setCell ⟨w2.heap.size,3,none⟩ (.slice A' l' c')) := (Kept.refl _ _).set (.inl (by simp)) _
                  have sh7 : CtS w w2.heap.size (w2.heap.size + 1) (.int .i64 p.n) (.slice nA nl nc) (.slice sA sl sc) (.slice mA ml mc) ((p.rules.take (i + 1)).map noW) A' l' c' (w6.setCell ⟨w2.heap.size,3,none⟩ (.slice A' l' c')) := by
                    rw [hst]
                    exact ⟨own6.kept kk (fun k hk => by simp at hk; subst hk; exact ⟨hwz,hne6⟩),hl',b6.set_ 3 _,hne6⟩
                  rw [World.size_alloc] at hrun
                  obtain ⟨HLX,HS,HRUN,OWN6,HG6,HAT6,HS5,B6,HBC,HNE6,KK,SH7⟩ := hd12 hlx hs hrun own6 hg6 hat6 hs5 b6 hbc hne6 kk sh7; clear hlx hs hrun own6 hg6 hat6 hs5 b6 hbc hne6 kk sh7
                  obtain ⟨HL',HLB,HEL,HCR,HST,HCH,HSM,HLEN0,HLI,HGL1,G1,G2⟩ := hd12 hl' hlb hel hcr hst hch hsm hlen0 hli hgl1 g1 g2; clear hl' hlb hel hcr hst hch hsm hlen0 hli hgl1 g1 g2
                  obtain ⟨G3,G4,HRI,HBW⟩ := hd4 g3 g4 hri hbw; clear g3 g4 hri hbw
                  go_wp2_with (at_builtin; refine wpList_append_run rfl _ _ _ rfl _ _ rfl rfl _ _ HRUN.out ?_)
                  go_roundw
                  case rel => exact ⟨i + 1,A',l',c',by omega,by go_num,SH7.out⟩
                  case measure => simp [intOf]; omega
              · have hl1' : ¬ (1 : Int) < (hl : Int) := by omega
                clear hds
                have hlx : ((p.rules.take i).map noW).length = i := by rw [← hlen0,hli]
                have hi16 : rl ≤ 16 := by have := HRL.out; omega
                obtain ⟨v',w6,hrun,own6,hg6,hat6⟩ := (hs.bel (bel_alloc wo (.cells #[.bool false,.slice hA hl hc,.bool sm,.int .i64 r.bound,.slice bA bl bc,.slice wA wl wc] 42))).own.app1 ety_rule (#[.bool false,.slice hA hl hc,.bool sm,.int .i64 r.bound,.slice bA bl bc,.slice wA wl wc] : Array Value).toList (noW r) hel (by omega) 24
                obtain ⟨l',hl'⟩ : ∃ l',l' = ((p.rules.take i).map noW ++ [noW r]).length := ⟨_,rfl⟩
                have hlb : ((p.rules.take i).map noW ++ [noW r]).length ≤ 1000 := by rw [List.length_append,hlx]; simp; omega
                obtain ⟨A',c',rfl,-⟩ := own6.sl (by omega)
                rw [← hl'] at hrun own6 hat6
                have hs5 := hs.bel (bel_alloc wo (.cells #[.bool false,.slice hA hl hc,.bool sm,.int .i64 r.bound,.slice bA bl bc,.slice wA wl wc] 42))
                have b6 := (grown_kept hg6).blk hs5.box (fun e => hs5.ne (by simpa using e))
                have k4 : (wo.alloc (.cells #[.bool false,.slice hA hl hc,.bool sm,.int .i64 r.bound,.slice bA bl bc,.slice wA wl wc] 42)).cell? ⟨w2.heap.size,3,none⟩ = some (.slice A l c) := hs5.box.cell 3
                have k6 : w6.cell? ⟨w2.heap.size,3,none⟩ = some (.slice A l c) := b6.cell 3
                have z6 : w6.frozen? ⟨w2.heap.size,3,none⟩ = false := b6.frozen 3
                have hbc : Blk (wo.alloc (.cells #[.bool false,.slice hA hl hc,.bool sm,.int .i64 r.bound,.slice bA bl bc,.slice wA wl wc] 42)) wo.heap.size 42 #[.bool false,.slice hA hl hc,.bool sm,.int .i64 r.bound,.slice bA bl bc,.slice wA wl wc] := blk_new rfl _ _
                obtain ⟨q0,q1,q2,q3,q4,q5⟩ := rcells23 hbc
                have hne6 : (Value.slice A' l' c').ownBlock ≠ some w2.heap.size := fun e => by
                  rcases hat6 _ e with h | h
                  · exact hs5.ne h
                  · rw [World.size_alloc] at h; omega
                have kk : Kept [w2.heap.size] w6 (w6.setCell ⟨w2.heap.size,3,none⟩ (.slice A' l' c')) := (Kept.refl _ _).set (.inl (by simp)) _
                have sh7 : CtS w w2.heap.size (w2.heap.size + 1) (.int .i64 p.n) (.slice nA nl nc) (.slice sA sl sc) (.slice mA ml mc) ((p.rules.take (i + 1)).map noW) A' l' c' (w6.setCell ⟨w2.heap.size,3,none⟩ (.slice A' l' c')) := by
                  rw [hst]
                  exact ⟨own6.kept kk (fun k hk => by simp at hk; subst hk; exact ⟨hwz,hne6⟩),hl',b6.set_ 3 _,hne6⟩
                rw [World.size_alloc] at hrun
                obtain ⟨HLX,HS,HRUN,OWN6,HG6,HAT6,HS5,B6,HBC,HNE6,KK,SH7⟩ := hd12 hlx hs hrun own6 hg6 hat6 hs5 b6 hbc hne6 kk sh7; clear hlx hs hrun own6 hg6 hat6 hs5 b6 hbc hne6 kk sh7
                obtain ⟨HL',HLB,HEL,HCR,HST,HCH,HSM,HLEN0,HLI,HGL1,G1,G2⟩ := hd12 hl' hlb hel hcr hst hch hsm hlen0 hli hgl1 g1 g2; clear hl' hlb hel hcr hst hch hsm hlen0 hli hgl1 g1 g2
                obtain ⟨G3,G4,HRI,HBW⟩ := hd4 g3 g4 hri hbw; clear g3 g4 hri hbw
                go_wp2_with (at_builtin; refine wpList_append_run rfl _ _ _ rfl _ _ rfl rfl _ _ HRUN.out ?_)
                go_roundw
                case rel => exact ⟨i + 1,A',l',c',by omega,by go_num,SH7.out⟩
                case measure => simp [intOf]; omega
        · have hil : i = rl := by omega
          subst hil
          have htk : (p.rules.take i).map noW = (noP p).rules := by show _ = p.rules.map noW; rw [List.take_of_length_le (by have := HRL.out; omega)]
          rw [htk] at hs
          have hln : (noP p).rules.length = i := by show (p.rules.map noW).length = i; rw [List.length_map]; exact HRL.out.symm
          obtain ⟨A2,c2,ev,hsl⟩ := hs.own.sl (by rw [hln]; have := HRL.out; omega)
          have hsl0 := hs.len
          rw [← hs.len] at ev hsl
          injection ev with e1 _ e2
          subst e1 e2
          have hbw := hs.own.below
          have hbx := hs.box
          have hpw := HP.out.ext hbw
          have hq : ProgIn wo (noP p) nA nl nc sA sl sc A l c mA ml mc := ⟨hpw.n,hpw.names,hpw.shown,hsl,hpw.min⟩
          cases hfr : freeB (noP p) with
          | false =>
            have hse : shiftE (freeB (noP p)) (noP p) = 220 := by unfold shiftE; rw [if_neg (by simp [HCV.out]),hfr]; rfl
            have cS := shift_err (noP p) nA nl nc sA sl sc A l c mA ml mc wo hq (by rw [hse]; decide)
            rw [hse] at cS
            obtain ⟨p0,p1,p2,p3,p4,p5⟩ := pcells hbx
            obtain ⟨HS,HSL,HBW,HBX,HPW,HQ,CS,HTK,HLN,HSE,HFR,HSL0⟩ := hd12 hs hsl hbw hbx hpw hq cS htk hln hse hfr hsl0; clear hs hsl hbw hbx hpw hq cS htk hln hse hfr hsl0
            go_wp2_with fail
            clear p0 p1 p2 p3 p4 p5
            go_fit CS.out; rintro e w3 ⟨rfl,hb⟩
            have HBL := Lib.hid (bel_trans HBW.out (bel_trans hb (bel_alloc w3 (.cells #[.int .i64 0,.slice none 0 0,.slice none 0 0,.slice none 0 0,.slice none 0 0] 27))))
            clear hb
            go_wp2_with fail
            go_fit (CA.out _); rintro e wz ⟨rfl,hbz⟩
            have HBZ := Lib.hid (bel_trans HBL.out hbz)
            clear hbz
            go_wp2_with fail
            go_ret
            exact ⟨rfl,HBZ.out⟩
          | true =>
            have cS := shift_any (noP p) nA nl nc sA sl sc A l c mA ml mc wo hq HCV.out hfr HSO.out
            obtain ⟨p0,p1,p2,p3,p4,p5⟩ := pcells hbx
            obtain ⟨HS,HSL,HBW,HBX,HPW,HQ,CS,HTK,HLN,HFR,HSL0⟩ := hd11 hs hsl hbw hbx hpw hq cS htk hln hfr hsl0; clear hs hsl hbw hbx hpw hq cS htk hln hfr hsl0
            go_wp2_with fail
            clear p0 p1 p2 p3 p4 p5
            go_fit CS.out; rintro e w3 ⟨nE,lE,cE,sE,kE,dE,rE,mE,fE,tE,iE,jE,rfl,hP,hb'⟩
            have hb := bel_trans hb' (bel_alloc w3 (.cells #[.int .i64 (sfP (noP p)).n,.slice nE lE cE,.slice sE kE dE,.slice rE mE fE,.slice tE iE jE] 27))
            have hbx := HBX.out.bel hb
            have hbt : Blk (w3.alloc (.cells #[.int .i64 (sfP (noP p)).n,.slice nE lE cE,.slice sE kE dE,.slice rE mE fE,.slice tE iE jE] 27)) w3.heap.size 27 #[.int .i64 (sfP (noP p)).n,.slice nE lE cE,.slice sE kE dE,.slice rE mE fE,.slice tE iE jE] := blk_new rfl _ _
            have hP4 := hP.ext (bel_alloc w3 (.cells #[.int .i64 (sfP (noP p)).n,.slice nE lE cE,.slice sE kE dE,.slice rE mE fE,.slice tE iE jE] 27))
            have hq4 := HQ.out.ext hb
            have hw4 := bel_trans HBW.out hb
            clear hb hb' hP CS HBX
            obtain ⟨p0,p1,p2,p3,p4,p5⟩ := pcells hbx
            obtain ⟨HBX,HBT,HP4,HQ4,HW4⟩ := hd5 hbx hbt hP4 hq4 hw4; clear hbx hbt hP4 hq4 hw4
            go_wp2_with fail
            clear p0 p1 p2 p3 p4 p5
            generalize w3.alloc (.cells #[.int .i64 (sfP (noP p)).n,.slice nE lE cE,.slice sE kE dE,.slice rE mE fE,.slice tE iE jE] 27) = w4 at *
            generalize w3.heap.size = gx at *
            have cE := edges_any (noP p) nA nl nc sA sl sc A l c mA ml mc w4 HQ4.out HCV.out
            go_fit cE; rintro e w5 ⟨aA,al,ac,rfl,hea,-,hb⟩
            have hbx := HBX.out.bel hb
            have hbt := HBT.out.bel hb
            have hP5 := HP4.out.ext hb
            have hq5 := HQ4.out.ext hb
            have hw5 := bel_trans HW4.out hb
            clear hb HBX HBT HP4 HQ4 cE
            obtain ⟨p0,p1,p2,p3,p4,p5⟩ := pcells hbt
            obtain ⟨HBX,HBT,HP5,HQ5,HW5,HEA⟩ := hd6 hbx hbt hP5 hq5 hw5 hea; clear hbx hbt hP5 hq5 hw5 hea
            go_wp2_with fail
            clear p0 p1 p2 p3 p4 p5
            have cE := edges_any (sfP (noP p)) nE lE cE sE kE dE rE mE fE tE iE jE w5 HP5.out HVQ.out
            rw [HED.out.2] at cE
            go_fit cE; rintro e w6 ⟨bA,bl,bc,rfl,heb,-,hb⟩
            have hbx := HBX.out.bel hb
            have hbt := HBT.out.bel hb
            have hP6 := HP5.out.ext hb
            have hq6 := HQ5.out.ext hb
            have hw6 := bel_trans HW5.out hb
            have hea6 := HEA.out.ext hb
            clear hb HBX HBT HP5 HQ5 cE HEA
            obtain rfl : al = bl := by rw [hea6.len,heb.len]
            have hac := hea6.cap
            have ham := hea6.max
            have hbc := heb.cap
            have t0 : w6.cell? ⟨gx,0,none⟩ = some (.int .i64 p.n) := by have h := hbt.cell 0; rw [show (sfP (noP p)).n = p.n from HED.out.1] at h; exact h
            have p0 : w6.cell? ⟨w2.heap.size,0,none⟩ = some (.int .i64 p.n) := hbx.cell 0
            obtain ⟨HBX,HBT,HP6,HQ6,HW6,HEA6,HEB⟩ := hd7 hbx hbt hP6 hq6 hw6 hea6 heb; clear hbx hbt hP6 hq6 hw6 hea6 heb
            go_wp2_with fail
            clear t0 p0
            go_loopw [106] (fun t wr => ∃ k : Nat,k ≤ al ∧ t = .int .i64 (k : Int) ∧ Below w6.heap.size w6 wr) (fun t _ => al - (intOf t).toNat)
            case atStart => exact ⟨0,Nat.zero_le _,rfl,Below.refl _ _⟩
            case round =>
              obtain ⟨k,hk,rfl,hbw⟩ := hrel
              obtain ⟨wv,rfl⟩ : ∃ wv : World,wv = wr := ⟨_,rfl⟩
              by_cases hlt : k < al
              · obtain ⟨x,hx,-⟩ := HEA6.out.drop hlt
                obtain ⟨b,off,rfl,_,f0,f1,g1,g2⟩ := (HEA6.out.ext hbw).pair hx
                obtain ⟨b',off',rfl,_,e0,e1,p1,p2⟩ := (HEB.out.ext hbw).pair hx
                obtain ⟨x1,x2⟩ := x
                simp only at f0 f1 e0 e1
                have i0 : (0 : Int) ≤ (k : Int) := by omega
                have i1 : (k : Int) < (al : Int) := by omega
                obtain ⟨HX,G1,G2,P1,P2,HBW⟩ := hd6 hx g1 g2 p1 p2 hbw; clear hx g1 g2 p1 p2 hbw
                go_upto_region 22 with fail
                refine wp_region_inv (fun listed a' w' => ∃ (b0 b1 b2 b3 b4 b5 b6 b7 b8 : Bool) (u109 u110 u111 u112 u113 u114 u115 u116 u117 : Value),listed = #[b0,b1,b2,b3,b4,b5,b6,b7,b8] ∧ a' = { tmps := #[.agg #[.int .i64 p.n,.slice nA nl nc,.slice sA sl sc,.slice rA i rc,.slice mA ml mc],.pointer (some ⟨w.heap.size,0,none⟩),u2,.pointer (some ⟨w2.heap.size,0,none⟩),undef,u5,.pointer (some ⟨gx,0,none⟩),.int .i64 0,.slice (some ⟨b,off,none⟩) al ac,.int .i64 0,.slice (some ⟨b',off',none⟩) al bc,.int .i64 0,.int .i64 (k : Int),undef,undef,undef,undef,undef,undef,undef,undef,.agg #[.int .i64 p.n,.slice nA nl nc,.slice sA sl sc,.slice rA i rc,.slice mA ml mc],.bool true,.bool false,.bool false,.agg #[.int .i64 p.n,.slice nA nl nc,.slice sA sl sc,.slice rA i rc,.slice mA ml mc],.int .i64 0,.bool false,.bool false,undef,.agg #[.int .i64 p.n,.slice nA nl nc,.slice sA sl sc,.slice rA i rc,.slice mA ml mc],.pointer (some ⟨w2.heap.size,3,none⟩),.pointer (some ⟨w.heap.size,3,none⟩),.slice rA i rc,.int .i64 (i : Int),.int .i64 (i : Int),.bool false,u37,u38,u39,u40,u41,u42,u43,u44,u45,u46,u47,u48,u49,u50,u51,u52,u53,u54,u55,u56,u57,u58,u59,u60,u61,Value.tuple #[.agg #[.int .i64 (sfP (noP p)).n,.slice nE lE cE,.slice sE kE dE,.slice rE mE fE,.slice tE iE jE],.int .i64 0],.agg #[.int .i64 p.n,.slice nA nl nc,.slice sA sl sc,.slice A l c,.slice mA ml mc],Value.tuple #[.agg #[.int .i64 (sfP (noP p)).n,.slice nE lE cE,.slice sE kE dE,.slice rE mE fE,.slice tE iE jE],.int .i64 0],.agg #[.int .i64 (sfP (noP p)).n,.slice nE lE cE,.slice sE kE dE,.slice rE mE fE,.slice tE iE jE],.int .i64 0,.int .i64 0,.bool false,undef,undef,undef,undef,undef,Value.tuple #[.slice (some ⟨b,off,none⟩) al ac,.int .i64 0],.agg #[.int .i64 p.n,.slice nA nl nc,.slice sA sl sc,.slice A l c,.slice mA ml mc],Value.tuple #[.slice (some ⟨b,off,none⟩) al ac,.int .i64 0],.slice (some ⟨b,off,none⟩) al ac,.int .i64 0,Value.tuple #[.slice (some ⟨b',off',none⟩) al bc,.int .i64 0],.agg #[.int .i64 (sfP (noP p)).n,.slice nE lE cE,.slice sE kE dE,.slice rE mE fE,.slice tE iE jE],Value.tuple #[.slice (some ⟨b',off',none⟩) al bc,.int .i64 0],.slice (some ⟨b',off',none⟩) al bc,.int .i64 0,.int .i64 0,.bool false,.bool false,.int .i64 0,.bool false,.bool false,.bool false,.slice (some ⟨b,off,none⟩) al ac,.int .i64 (al : Int),.slice (some ⟨b',off',none⟩) al bc,.int .i64 (al : Int),.bool false,.bool false,.bool false,.pointer (some ⟨gx,0,none⟩),.int .i64 p.n,.pointer (some ⟨w2.heap.size,0,none⟩),.int .i64 p.n,.bool false,.bool false,.slice (some ⟨b,off,none⟩) al ac,.int .i64 (al : Int),.int .i64 (k : Int),.bool true,.int .i64 (k : Int),u109,u110,u111,u112,u113,u114,u115,u116,u117,u118,undef,undef,undef,undef,undef,undef,undef,undef,undef,undef,undef,undef,undef,undef,undef,undef,undef,undef,undef,undef,undef,undef,undef,undef,undef,undef,undef,undef,undef,undef,undef,undef,undef,undef,undef,undef,undef,undef,undef,undef,undef,undef,undef,undef,undef,undef,undef,undef,undef,undef,undef,undef,undef,undef,undef,undef,undef,undef,undef,undef,undef,undef,undef,undef,undef,undef,undef,undef,undef,undef,undef,undef,undef,undef,undef,undef,undef,undef,undef,undef,undef,undef,undef,undef,undef,undef,undef,undef],defers := [] } ∧ (Below wv.heap.size wv w') ∧ (b0 = true → u109 = .slice (some ⟨b,off,none⟩) al ac) ∧ (b1 = true → u110 = .int .i64 (k : Int)) ∧ (b2 = true → u111 = .pointer (some ⟨b,off + k * 2,none⟩)) ∧ (b3 = true → u112 = .agg #[.int .i64 x1,.int .i64 x2]) ∧ (b4 = true → u113 = .slice (some ⟨b',off',none⟩) al bc) ∧ (b5 = true → u114 = .int .i64 (k : Int)) ∧ (b6 = true → u115 = .pointer (some ⟨b',off' + k * 2,none⟩)) ∧ (b7 = true → u116 = .agg #[.int .i64 x1,.int .i64 x2]) ∧ (b8 = true → u117 = .bool false)) (by kernel_rfl) ?start ?step ?_
                case start => exact ⟨false,false,false,false,false,false,false,false,false,_,_,_,_,_,_,_,_,_,rfl,rfl,(Below.refl _ _).drew,(by simp),(by simp),(by simp),(by simp),(by simp),(by simp),(by simp),(by simp),(by simp)⟩
                case step =>
                  rintro listed a' w' i o ⟨b0,b1,b2,b3,b4,b5,b6,b7,b8,u109,u110,u111,u112,u113,u114,u115,u116,u117,rfl,rfl,hB,f0_,f1_,f2_,f3_,f4_,f5_,f6_,f7_,f8_⟩ ho hli hd K hK
                  match i,ho,hli,hd with
                  | 0,ho,hli,hd =>
                    obtain rfl := Option.some.inj ho
                    obtain rfl : b0 = false := hli
                    go_simp
                    exact hK _ _ ⟨_,_,_,_,_,_,_,_,_,_,_,_,_,_,_,_,_,_,rfl,rfl,hB,(fun _ => rfl),f1_,f2_,f3_,f4_,f5_,f6_,f7_,f8_⟩
                  | 1,ho,hli,hd =>
                    obtain rfl := Option.some.inj ho
                    obtain rfl : b1 = false := hli
                    go_simp
                    exact hK _ _ ⟨_,_,_,_,_,_,_,_,_,_,_,_,_,_,_,_,_,_,rfl,rfl,hB,f0_,(fun _ => rfl),f2_,f3_,f4_,f5_,f6_,f7_,f8_⟩
                  | 2,ho,hli,hd =>
                    obtain rfl := Option.some.inj ho
                    obtain rfl : b2 = false := hli
                    obtain rfl : b0 = true := hd ⟨0,.data⟩ (by simp) rfl
                    obtain rfl : b1 = true := hd ⟨1,.data⟩ (by simp) rfl
                    obtain rfl := f0_ rfl
                    obtain rfl := f1_ rfl
                    go_simp
                    exact hK _ _ ⟨_,_,_,_,_,_,_,_,_,_,_,_,_,_,_,_,_,_,rfl,rfl,hB,f0_,f1_,(fun _ => rfl),f3_,f4_,f5_,f6_,f7_,f8_⟩
                  | 3,ho,hli,hd =>
                    obtain rfl := Option.some.inj ho
                    obtain rfl : b3 = false := hli
                    obtain rfl : b2 = true := hd ⟨2,.data⟩ (by simp) rfl
                    obtain rfl := f2_ rfl
                    have c1 : w'.cell? ⟨b,off + k * 2,none⟩ = some (.int .i64 x1) := (hB.cell (World.block_lt_of_cell? _ _ f0)).trans f0
                    have c2 : w'.cell? ⟨b,off + k * 2 + 1,none⟩ = some (.int .i64 x2) := (hB.cell (World.block_lt_of_cell? _ _ f1)).trans f1
                    go_simp
                    exact hK _ _ ⟨_,_,_,_,_,_,_,_,_,_,_,_,_,_,_,_,_,_,rfl,rfl,hB,f0_,f1_,f2_,(fun _ => rfl),f4_,f5_,f6_,f7_,f8_⟩
                  | 4,ho,hli,hd =>
                    obtain rfl := Option.some.inj ho
                    obtain rfl : b4 = false := hli
                    go_simp
                    exact hK _ _ ⟨_,_,_,_,_,_,_,_,_,_,_,_,_,_,_,_,_,_,rfl,rfl,hB,f0_,f1_,f2_,f3_,(fun _ => rfl),f5_,f6_,f7_,f8_⟩
                  | 5,ho,hli,hd =>
                    obtain rfl := Option.some.inj ho
                    obtain rfl : b5 = false := hli
                    go_simp
                    exact hK _ _ ⟨_,_,_,_,_,_,_,_,_,_,_,_,_,_,_,_,_,_,rfl,rfl,hB,f0_,f1_,f2_,f3_,f4_,(fun _ => rfl),f6_,f7_,f8_⟩
                  | 6,ho,hli,hd =>
                    obtain rfl := Option.some.inj ho
                    obtain rfl : b6 = false := hli
                    obtain rfl : b4 = true := hd ⟨4,.data⟩ (by simp) rfl
                    obtain rfl : b5 = true := hd ⟨5,.data⟩ (by simp) rfl
                    obtain rfl := f4_ rfl
                    obtain rfl := f5_ rfl
                    go_simp
                    exact hK _ _ ⟨_,_,_,_,_,_,_,_,_,_,_,_,_,_,_,_,_,_,rfl,rfl,hB,f0_,f1_,f2_,f3_,f4_,f5_,(fun _ => rfl),f7_,f8_⟩
                  | 7,ho,hli,hd =>
                    obtain rfl := Option.some.inj ho
                    obtain rfl : b7 = false := hli
                    obtain rfl : b6 = true := hd ⟨6,.data⟩ (by simp) rfl
                    obtain rfl := f6_ rfl
                    have c1 : w'.cell? ⟨b',off' + k * 2,none⟩ = some (.int .i64 x1) := (hB.cell (World.block_lt_of_cell? _ _ e0)).trans e0
                    have c2 : w'.cell? ⟨b',off' + k * 2 + 1,none⟩ = some (.int .i64 x2) := (hB.cell (World.block_lt_of_cell? _ _ e1)).trans e1
                    go_simp
                    exact hK _ _ ⟨_,_,_,_,_,_,_,_,_,_,_,_,_,_,_,_,_,_,rfl,rfl,hB,f0_,f1_,f2_,f3_,f4_,f5_,f6_,(fun _ => rfl),f8_⟩
                  | 8,ho,hli,hd =>
                    obtain rfl := Option.some.inj ho
                    obtain rfl : b8 = false := hli
                    obtain rfl : b3 = true := hd ⟨3,.data⟩ (by simp) rfl
                    obtain rfl : b7 = true := hd ⟨7,.data⟩ (by simp) rfl
                    obtain rfl := f3_ rfl
                    obtain rfl := f7_ rfl
                    have heq := eq_pairT x1 x2 x1 x2
                    rw [decide_eq_true rfl] at heq
                    go_simp
                    exact hK _ _ ⟨_,_,_,_,_,_,_,_,_,_,_,_,_,_,_,_,_,_,rfl,rfl,hB,f0_,f1_,f2_,f3_,f4_,f5_,f6_,f7_,(fun _ => rfl)⟩
                  | i + 9,ho,hli,hd => simp at ho
                rintro listed a' w' ⟨b0,b1,b2,b3,b4,b5,b6,b7,b8,u109,u110,u111,u112,u113,u114,u115,u116,u117,rfl,rfl,hB,f0_,f1_,f2_,f3_,f4_,f5_,f6_,f7_,f8_⟩ hr
                obtain rfl : b0 = true := rn hr 0 rfl
                obtain rfl : b1 = true := rn hr 1 rfl
                obtain rfl : b2 = true := rn hr 2 rfl
                obtain rfl : b3 = true := rn hr 3 rfl
                obtain rfl : b4 = true := rn hr 4 rfl
                obtain rfl : b5 = true := rn hr 5 rfl
                obtain rfl : b6 = true := rn hr 6 rfl
                obtain rfl : b7 = true := rn hr 7 rfl
                obtain rfl : b8 = true := rn hr 8 rfl
                clear hr
                obtain rfl := f8_ rfl
                clear f0_ f1_ f2_ f3_ f4_ f5_ f6_ f7_
                have hb9 := bel_trans HBW.out hB
                have HB9 := Lib.hid hb9; clear hb9
                go_wp2_with fail
                go_roundw
                case rel => exact ⟨k + 1,by omega,by go_num,HB9.out⟩
                case measure => simp [intOf]; omega
              · have hkl : k = al := by omega
                subst hkl
                have hbx := HBX.out.bel hbw
                have hbt := HBT.out.bel hbw
                have hP7 := HP6.out.ext hbw
                have hq7 := HQ6.out.ext hbw
                have hw7 := bel_trans HW6.out hbw
                clear HBX HBT HP6 HQ6 HEA6 HEB
                have hqc := hq7.rules.cap
                have hqm := hq7.rules.max
                obtain ⟨p0,p1,p2,p3,p4,p5⟩ := pcells hbx
                obtain ⟨HBX,HBT,HP7,HQ7,HW7,HBW⟩ := hd6 hbx hbt hP7 hq7 hw7 hbw; clear hbx hbt hP7 hq7 hw7 hbw
                go_wp2_with fail
                clear p0 p1 p2 p3 p4 p5
                obtain ⟨QR,hQR⟩ : ∃ QR,QR = (noP p).rules := ⟨_,rfl⟩
                have hxlen : (sfP (noP p)).rules.length = (sfL QR p.n).length := by rw [sf_rules,List.length_map,hQR]; rfl
                have hml : mE = (sfL QR p.n).length := by rw [← hxlen]; exact HP7.out.rules.len
                have hql : l = QR.length := by rw [hQR]; exact HSL0.out
                have hxc := HP7.out.rules.cap
                have hxm := HP7.out.rules.max
                obtain ⟨HQR,HXLEN,HML,HQL⟩ := hd4 hQR hxlen hml hql; clear hQR hxlen hml hql
                go_loopw [122,13] (fun t a wr => ∃ j : Nat,j ≤ l ∧ t = .int .i64 (j : Int) ∧ a = .int .i64 (((sfL (QR.take j) p.n).length : Nat) : Int) ∧ Below wv.heap.size wv wr) (fun t _ _ => l - (intOf t).toNat)
                case atStart => exact ⟨0,Nat.zero_le _,rfl,rfl,Below.refl _ _⟩
                case round =>
                  obtain ⟨j,hj,rfl,rfl,hw⟩ := hrel
                  obtain ⟨wu,rfl⟩ : ∃ wu : World,wu = wr := ⟨_,rfl⟩
                  by_cases hlt : j < l
                  · obtain ⟨r,hri,-⟩ := HQ7.out.rules.drop hlt
                    obtain ⟨bb,off,hA,hl,hc,bA,bl,bc,wA,wl,wc,rfl,hbl2,d0,d1,d2,d3,d4,d5,g1,g2,g3,g4⟩ := (HQ7.out.rules.ext hw).rule hri
                    obtain ⟨mn,hmn⟩ : ∃ mn,mn = if r.choice then 1 else max 1 r.head.length := ⟨_,rfl⟩
                    have hcm := count_many HWS.out hri p.n
                    rw [← hmn] at hcm
                    have htal := fun k (hk : k < mn) => tight_all HCI.out HWS.out hri hmn hk
                    rw [← HQR.out] at hri hcm
                    replace htal : ∀ k,k < mn → ∃ s,(sfP (noP p)).rules[(sfL (QR.take j) p.n).length + k]? = some s ∧ inB r.body s.body = true ∧ (1 < mn → ∀ (jj : Nat) (o : Int),r.head[jj]? = some o → (jj ≠ k → inB [-o] s.body = true) ∧ (jj = k → s.head = [o])) := by rw [HQR.out]; exact htal
                    have hpre := (sfL_pre QR p.n (j + 1)).length_le
                    obtain ⟨bs,hbs⟩ : ∃ bs,bs = (sfL (QR.take j) p.n).length := ⟨_,rfl⟩
                    rw [← hbs] at hcm htal
                    have htot : bs + mn ≤ mE := by have := HML.out; omega
                    have hcH := g1.cap
                    have hmH := g1.max
                    have hlH := g1.len
                    have k0 : (0 : Int) ≤ (j : Int) := by omega
                    have k1 : (j : Int) < (l : Int) := by omega
                    obtain ⟨ch,hch⟩ : ∃ ch,r.choice = ch := ⟨_,rfl⟩
                    rw [hch] at d0 hmn
                    have b4 : Blk (wu.alloc (.cells #[.bool ch,.slice hA hl hc,.bool r.sum,.int .i64 r.bound,.slice bA bl bc,.slice wA wl wc] 42)) wu.heap.size 42 #[.bool ch,.slice hA hl hc,.bool r.sum,.int .i64 r.bound,.slice bA bl bc,.slice wA wl wc] := blk_new rfl _ _
                    have m0 : (wu.alloc (.cells #[.bool ch,.slice hA hl hc,.bool r.sum,.int .i64 r.bound,.slice bA bl bc,.slice wA wl wc] 42)).cell? ⟨wu.heap.size,0,none⟩ = some (.bool ch) := b4.cell 0
                    have m1 : (wu.alloc (.cells #[.bool ch,.slice hA hl hc,.bool r.sum,.int .i64 r.bound,.slice bA bl bc,.slice wA wl wc] 42)).cell? ⟨wu.heap.size,1,none⟩ = some (.slice hA hl hc) := b4.cell 1
                    have hwa := bel_alloc wu (.cells #[.bool ch,.slice hA hl hc,.bool r.sum,.int .i64 r.bound,.slice bA bl bc,.slice wA wl wc] 42)
                    rw [← hbs]
                    have hge : wv.heap.size ≤ wu.heap.size := hw.size
                    have hw9 := bel_trans hw hwa
                    have hbx := HBX.out.bel hw9
                    have hbt := HBT.out.bel hw9
                    have hP9 := HP7.out.ext hw9
                    replace g1 := g1.ext hwa
                    replace g3 := g3.ext hwa
                    cases ch with
                    | true =>
                      have hmn1 : mn = 1 := hmn
                      subst hmn1
                      obtain ⟨HBX,HBT,HP9,HRI,HCM,HTAL,HBS,HMN,G1,G2,G3,G4⟩ := hd12 hbx hbt hP9 hri hcm htal hbs hmn g1 g2 g3 g4; clear hbx hbt hP9 hri hcm htal hbs hmn g1 g2 g3 g4
                      obtain ⟨HCH,B4,HWA,HW,HW9,HLH⟩ := hd6 hch b4 hwa hw hw9 hlH; clear hch b4 hwa hw hw9 hlH
                      go_wp2_with fail
                      clear m0 m1
                      generalize heqA : wu.alloc (.cells #[.bool true,.slice hA hl hc,.bool r.sum,.int .i64 r.bound,.slice bA bl bc,.slice wA wl wc] 42) = wa at *
                      generalize heqG : wu.heap.size = gr at *
                      clear d0 d1 d2 d3 d4 d5
                      obtain ⟨HEQA,HEQG⟩ := hd2 heqA heqG; clear heqA heqG
                      go_loopw [134,13] (fun t a wr => ∃ k an : Nat,k ≤ 1 ∧ an = bs + k ∧ t = .int .i64 (k : Int) ∧ a = .int .i64 (an : Int) ∧ Below wa.heap.size wa wr) (fun t _ _ => 1 - (intOf t).toNat)
                      case atStart => exact ⟨0,bs,Nat.zero_le _,rfl,rfl,rfl,Below.refl _ _⟩
                      case round =>
                        obtain ⟨k,an,hk,han,rfl,rfl,hwk⟩ := hrel
                        obtain ⟨wb,rfl⟩ : ∃ wb : World,wb = wr := ⟨_,rfl⟩
                        by_cases hlt : k < 1
                        · obtain ⟨s,hsr,hsb,hsh⟩ := HTAL.out k hlt
                          rw [← han] at hsr
                          obtain ⟨b2,off2,hA2,hl2,hc2,bA2,bl2,bc2,wA2,wl2,wc2,rfl,hb2,e0,e1,e2,e3,e4,e5,q1,q2,q3,q4⟩ := (HP9.out.rules.ext hwk).rule hsr
                          have t3 : wb.cell? ⟨gx,3,none⟩ = some (.slice (some ⟨b2,off2,none⟩) mE fE) := (HBT.out.bel hwk).cell 3
                          have i0 : (0 : Int) ≤ (an : Int) := by omega
                          have i1 : (an : Int) < (mE : Int) := by omega
                          have i2 : ¬ mE ≤ an := by omega
                          have i3 : decide (mE ≤ an) = false := decide_eq_false i2
                          have i4 : ¬ (mE : Int) ≤ (an : Int) := by omega
                          have z1 : IntKind.i64.wrap ((an : Int) + 1) = (an : Int) + 1 := IntWalk.i64_in _ (by omega)
                          have hws := bel_alloc wb (.cells #[.bool s.choice,.slice hA2 hl2 hc2,.bool s.sum,.int .i64 s.bound,.slice bA2 bl2 bc2,.slice wA2 wl2 wc2] 42)
                          have hwc := bel_trans hwk hws
                          have bs4 : Blk (wb.alloc (.cells #[.bool s.choice,.slice hA2 hl2 hc2,.bool s.sum,.int .i64 s.bound,.slice bA2 bl2 bc2,.slice wA2 wl2 wc2] 42)) wb.heap.size 42 #[.bool s.choice,.slice hA2 hl2 hc2,.bool s.sum,.int .i64 s.bound,.slice bA2 bl2 bc2,.slice wA2 wl2 wc2] := blk_new rfl _ _
                          have b5 := B4.out.bel hwc
                          have m1 : (wb.alloc (.cells #[.bool s.choice,.slice hA2 hl2 hc2,.bool s.sum,.int .i64 s.bound,.slice bA2 bl2 bc2,.slice wA2 wl2 wc2] 42)).cell? ⟨gr,1,none⟩ = some (.slice hA hl hc) := b5.cell 1
                          have g1c := G1.out.ext hwc
                          have g3c := G3.out.ext hwc
                          have q1c := q1.ext hws
                          have q3c := q3.ext hws
                          have hbtc := HBT.out.bel hwc
                          have hlH := g1c.len
                          have hcH := g1c.cap
                          have hmH := g1c.max
                          have hob : ∀ o ∈ r.head,1 ≤ o ∧ o ≤ 4000 := fun o ho => by
                            have hr := List.mem_of_getElem? HRI.out
                            rw [HQR.out] at hr
                            have h1 := HCI.out.rules r hr
                            have := inc_mem h1.head o ho
                            have := h1.n1
                            omega
                          obtain ⟨HWK,HWS,HWC,BS4,B5,G1C,G3C,Q1C,Q3C,HBTC,HSR,HSB⟩ := hd12 hwk hws hwc bs4 b5 g1c g3c q1c q3c hbtc hsr hsb; clear hwk hws hwc bs4 b5 g1c g3c q1c q3c hbtc hsr hsb
                          obtain ⟨HSH,Q1,Q2,Q3,Q4,HAN,HLH,HOB⟩ := hd8 hsh q1 q2 q3 q4 han hlH hob; clear hsh q1 q2 q3 q4 han hlH hob
                          go_wp2_with fail
                          clear t3 i0 i1 i2 i3 i4 z1 m1 e0 e1 e2 e3 e4 e5
                          generalize heqC : wb.alloc (.cells #[.bool s.choice,.slice hA2 hl2 hc2,.bool s.sum,.int .i64 s.bound,.slice bA2 bl2 bc2,.slice wA2 wl2 wc2] 42) = wc at *
                          generalize heqS : wb.heap.size = gs at *
                          obtain ⟨HEQC,HEQS⟩ := hd2 heqC heqS; clear heqC heqS
                          go_loopw [152] (fun t wr => ∃ jj : Nat,jj ≤ hl ∧ t = .int .i64 (jj : Int) ∧ Below wc.heap.size wc wr) (fun t _ => hl - (intOf t).toNat)
                          case atStart => exact ⟨0,Nat.zero_le _,rfl,Below.refl _ _⟩
                          case round =>
                            obtain ⟨jj,hjj,rfl,hwj⟩ := hrel
                            obtain ⟨wd,rfl⟩ : ∃ wd : World,wd = wr := ⟨_,rfl⟩
                            by_cases hlj : jj < hl
                            · obtain ⟨o,ho,-⟩ := G1C.out.drop hlj
                              obtain ⟨b3,off3,rfl,hb3,f0,fi⟩ := (G1C.out.ext hwj).int ho
                              have hoo := HOB.out o (List.mem_of_getElem? ho)
                              have j0 : (0 : Int) ≤ (jj : Int) := by omega
                              have j1 : (jj : Int) < (hl : Int) := by omega
                              by_cases hm1 : 1 < 1
                              · first
                                | (exfalso; omega)
                                | (have hmI : (1 : Int) < (mn : Int) := by omega
                                   by_cases hjk : jj = k
                                   · subst hjk
                                     have hhd := (HSH.out hm1 jj o ho).2 rfl
                                     have bo : Blk (wd.alloc (.cells #[.int .i64 o] 3)) wd.heap.size 3 #[.int .i64 o] := blk_new rfl _ _
                                     have hwo := bel_trans hwj (bel_alloc wd (.cells #[.int .i64 o] 3))
                                     have s1 : wd.cell? ⟨gs,1,none⟩ = some (.slice hA2 hl2 hc2) := (BS4.out.bel hwj).cell 1
                                     have cI := lawInts_any hA2 hl2 hc2 (some ⟨wd.heap.size,0,none⟩) 1 1 s.head [o] _ (Q1C.out.ext hwo) (sl_one bo fi)
                                     rw [hhd,decide_eq_true rfl] at cI
                                     obtain ⟨HWJ,HB3,HOO,HHD,BO,HWO,CI,HO,FI⟩ := hd9 hwj hb3 hoo hhd bo hwo cI ho fi; clear hwj hb3 hoo hhd bo hwo cI ho fi
                                     go_wp2_with fail
                                     go_fit CI.out; rintro e we ⟨rfl,hb⟩
                                     have hwe := bel_trans HWO.out hb
                                     clear hb
                                     have HWE := Lib.hid hwe; clear hwe
                                     go_wp2_with fail
                                     go_roundw
                                     case rel => exact ⟨jj + 1,by omega,by go_num,HWE.out⟩
                                     case measure => simp [intOf]; omega
                                   · have hin := (HSH.out hm1 jj o ho).1 hjk
                                     have zn : IntKind.i64.wrap (-o) = -o := IntWalk.i64_in _ (by omega)
                                     have n1 : ((jj : Int) != (k : Int)) = true := by simp; omega
                                     have n2 : ((jj : Int) == (k : Int)) = false := by simp; omega
                                     have n3 : decide ((jj : Int) = (k : Int)) = false := decide_eq_false (by omega)
                                     have bo : Blk (wd.alloc (.cells #[.int .i64 (-o)] 3)) wd.heap.size 3 #[.int .i64 (-o)] := blk_new rfl _ _
                                     have hwo := bel_trans hwj (bel_alloc wd (.cells #[.int .i64 (-o)] 3))
                                     have s4 : (wd.alloc (.cells #[.int .i64 (-o)] 3)).cell? ⟨gs,4,none⟩ = some (.slice bA2 bl2 bc2) := (BS4.out.bel hwo).cell 4
                                     have cI := in_any (some ⟨wd.heap.size,0,none⟩) 1 1 bA2 bl2 bc2 [-o] s.body _ (sl_one bo (by unfold I64; omega)) (Q3C.out.ext hwo)
                                     rw [hin] at cI
                                     obtain ⟨HWJ,HB3,HOO,HIN,BO,HWO,CI,HO,FI,HJK⟩ := hd10 hwj hb3 hoo hin bo hwo cI ho fi hjk; clear hwj hb3 hoo hin bo hwo cI ho fi hjk
                                     go_wp2_with fail
                                     go_fit CI.out; rintro e we ⟨rfl,rfl⟩
                                     go_wp2_with fail
                                     go_roundw
                                     case rel => exact ⟨jj + 1,by omega,by go_num,HWO.out⟩
                                     case measure => simp [intOf]; omega)
                              · have hmI : ¬ (1 : Int) < (1 : Int) := by omega
                                obtain ⟨HWJ,HB3,HOO,HO,FI,HM1⟩ := hd6 hwj hb3 hoo ho fi hm1; clear hwj hb3 hoo ho fi hm1
                                go_wp2_with fail
                                go_roundw
                                case rel => exact ⟨jj + 1,by omega,by go_num,HWJ.out⟩
                                case measure => simp [intOf]; omega
                            · have s4 : wd.cell? ⟨gs,4,none⟩ = some (.slice bA2 bl2 bc2) := (BS4.out.bel hwj).cell 4
                              have r4 : wd.cell? ⟨gr,4,none⟩ = some (.slice bA bl bc) := (B5.out.bel hwj).cell 4
                              have cI := in_any bA bl bc bA2 bl2 bc2 r.body s.body wd (G3C.out.ext hwj) (Q3C.out.ext hwj)
                              rw [HSB.out] at cI
                              have hwz : Below wa.heap.size wa wd := bel_trans HWC.out hwj
                              obtain ⟨HWJ,CI,HWZ⟩ := hd3 hwj cI hwz; clear hwj cI hwz
                              go_wp2_with fail
                              go_fit CI.out; rintro e we ⟨rfl,rfl⟩
                              go_wp2_with fail
                              go_roundw
                              case rel => exact ⟨k + 1,an + 1,by omega,by have := HAN.out; omega,by go_num,by go_num,HWZ.out⟩
                              case measure => simp [intOf]; omega
                        · have hkm : k = 1 := by omega
                          have hwz := bel_trans HW9.out hwk
                          have hfin : (sfL (QR.take (j + 1)) p.n).length = an := by have := HCM.out; omega
                          obtain ⟨HWK,HWZ,HFIN,HAN,HKM⟩ := hd5 hwk hwz hfin han hkm; clear hwk hwz hfin han hkm
                          go_wp2_with fail
                          go_roundw
                          case rel => exact ⟨j + 1,by omega,by go_num,by rw [HFIN.out],HWZ.out⟩
                          case measure => simp [intOf]; omega
                    | false =>
                      have hmx : max (1 : Int) (hl : Int) = (mn : Int) := by simp only [if_false,Bool.false_eq_true] at hmn; omega
                      obtain ⟨HBX,HBT,HP9,HRI,HCM,HTAL,HBS,HMN,G1,G2,G3,G4⟩ := hd12 hbx hbt hP9 hri hcm htal hbs hmn g1 g2 g3 g4; clear hbx hbt hP9 hri hcm htal hbs hmn g1 g2 g3 g4
                      obtain ⟨HCH,B4,HWA,HW,HW9,HLH⟩ := hd6 hch b4 hwa hw hw9 hlH; clear hch b4 hwa hw hw9 hlH
                      go_wp2_with fail
                      clear m0 m1 hmx
                      generalize heqA : wu.alloc (.cells #[.bool false,.slice hA hl hc,.bool r.sum,.int .i64 r.bound,.slice bA bl bc,.slice wA wl wc] 42) = wa at *
                      generalize heqG : wu.heap.size = gr at *
                      clear d0 d1 d2 d3 d4 d5
                      obtain ⟨HEQA,HEQG⟩ := hd2 heqA heqG; clear heqA heqG
                      go_loopw [134,13] (fun t a wr => ∃ k an : Nat,k ≤ mn ∧ an = bs + k ∧ t = .int .i64 (k : Int) ∧ a = .int .i64 (an : Int) ∧ Below wa.heap.size wa wr) (fun t _ _ => mn - (intOf t).toNat)
                      case atStart => exact ⟨0,bs,Nat.zero_le _,rfl,rfl,rfl,Below.refl _ _⟩
                      case round =>
                        obtain ⟨k,an,hk,han,rfl,rfl,hwk⟩ := hrel
                        obtain ⟨wb,rfl⟩ : ∃ wb : World,wb = wr := ⟨_,rfl⟩
                        by_cases hlt : k < mn
                        · obtain ⟨s,hsr,hsb,hsh⟩ := HTAL.out k hlt
                          rw [← han] at hsr
                          obtain ⟨b2,off2,hA2,hl2,hc2,bA2,bl2,bc2,wA2,wl2,wc2,rfl,hb2,e0,e1,e2,e3,e4,e5,q1,q2,q3,q4⟩ := (HP9.out.rules.ext hwk).rule hsr
                          have t3 : wb.cell? ⟨gx,3,none⟩ = some (.slice (some ⟨b2,off2,none⟩) mE fE) := (HBT.out.bel hwk).cell 3
                          have i0 : (0 : Int) ≤ (an : Int) := by omega
                          have i1 : (an : Int) < (mE : Int) := by omega
                          have i2 : ¬ mE ≤ an := by omega
                          have i3 : decide (mE ≤ an) = false := decide_eq_false i2
                          have i4 : ¬ (mE : Int) ≤ (an : Int) := by omega
                          have z1 : IntKind.i64.wrap ((an : Int) + 1) = (an : Int) + 1 := IntWalk.i64_in _ (by omega)
                          have hws := bel_alloc wb (.cells #[.bool s.choice,.slice hA2 hl2 hc2,.bool s.sum,.int .i64 s.bound,.slice bA2 bl2 bc2,.slice wA2 wl2 wc2] 42)
                          have hwc := bel_trans hwk hws
                          have bs4 : Blk (wb.alloc (.cells #[.bool s.choice,.slice hA2 hl2 hc2,.bool s.sum,.int .i64 s.bound,.slice bA2 bl2 bc2,.slice wA2 wl2 wc2] 42)) wb.heap.size 42 #[.bool s.choice,.slice hA2 hl2 hc2,.bool s.sum,.int .i64 s.bound,.slice bA2 bl2 bc2,.slice wA2 wl2 wc2] := blk_new rfl _ _
                          have b5 := B4.out.bel hwc
                          have m1 : (wb.alloc (.cells #[.bool s.choice,.slice hA2 hl2 hc2,.bool s.sum,.int .i64 s.bound,.slice bA2 bl2 bc2,.slice wA2 wl2 wc2] 42)).cell? ⟨gr,1,none⟩ = some (.slice hA hl hc) := b5.cell 1
                          have g1c := G1.out.ext hwc
                          have g3c := G3.out.ext hwc
                          have q1c := q1.ext hws
                          have q3c := q3.ext hws
                          have hbtc := HBT.out.bel hwc
                          have hlH := g1c.len
                          have hcH := g1c.cap
                          have hmH := g1c.max
                          have hob : ∀ o ∈ r.head,1 ≤ o ∧ o ≤ 4000 := fun o ho => by
                            have hr := List.mem_of_getElem? HRI.out
                            rw [HQR.out] at hr
                            have h1 := HCI.out.rules r hr
                            have := inc_mem h1.head o ho
                            have := h1.n1
                            omega
                          obtain ⟨HWK,HWS,HWC,BS4,B5,G1C,G3C,Q1C,Q3C,HBTC,HSR,HSB⟩ := hd12 hwk hws hwc bs4 b5 g1c g3c q1c q3c hbtc hsr hsb; clear hwk hws hwc bs4 b5 g1c g3c q1c q3c hbtc hsr hsb
                          obtain ⟨HSH,Q1,Q2,Q3,Q4,HAN,HLH,HOB⟩ := hd8 hsh q1 q2 q3 q4 han hlH hob; clear hsh q1 q2 q3 q4 han hlH hob
                          go_wp2_with fail
                          clear t3 i0 i1 i2 i3 i4 z1 m1 e0 e1 e2 e3 e4 e5
                          generalize heqC : wb.alloc (.cells #[.bool s.choice,.slice hA2 hl2 hc2,.bool s.sum,.int .i64 s.bound,.slice bA2 bl2 bc2,.slice wA2 wl2 wc2] 42) = wc at *
                          generalize heqS : wb.heap.size = gs at *
                          obtain ⟨HEQC,HEQS⟩ := hd2 heqC heqS; clear heqC heqS
                          go_loopw [152] (fun t wr => ∃ jj : Nat,jj ≤ hl ∧ t = .int .i64 (jj : Int) ∧ Below wc.heap.size wc wr) (fun t _ => hl - (intOf t).toNat)
                          case atStart => exact ⟨0,Nat.zero_le _,rfl,Below.refl _ _⟩
                          case round =>
                            obtain ⟨jj,hjj,rfl,hwj⟩ := hrel
                            obtain ⟨wd,rfl⟩ : ∃ wd : World,wd = wr := ⟨_,rfl⟩
                            by_cases hlj : jj < hl
                            · obtain ⟨o,ho,-⟩ := G1C.out.drop hlj
                              obtain ⟨b3,off3,rfl,hb3,f0,fi⟩ := (G1C.out.ext hwj).int ho
                              have hoo := HOB.out o (List.mem_of_getElem? ho)
                              have j0 : (0 : Int) ≤ (jj : Int) := by omega
                              have j1 : (jj : Int) < (hl : Int) := by omega
                              by_cases hm1 : 1 < mn
                              · first
                                | (exfalso; omega)
                                | (have hmI : (1 : Int) < (mn : Int) := by omega
                                   by_cases hjk : jj = k
                                   · subst hjk
                                     have hhd := (HSH.out hm1 jj o ho).2 rfl
                                     have bo : Blk (wd.alloc (.cells #[.int .i64 o] 3)) wd.heap.size 3 #[.int .i64 o] := blk_new rfl _ _
                                     have hwo := bel_trans hwj (bel_alloc wd (.cells #[.int .i64 o] 3))
                                     have s1 : wd.cell? ⟨gs,1,none⟩ = some (.slice hA2 hl2 hc2) := (BS4.out.bel hwj).cell 1
                                     have cI := lawInts_any hA2 hl2 hc2 (some ⟨wd.heap.size,0,none⟩) 1 1 s.head [o] _ (Q1C.out.ext hwo) (sl_one bo fi)
                                     rw [hhd,decide_eq_true rfl] at cI
                                     obtain ⟨HWJ,HB3,HOO,HHD,BO,HWO,CI,HO,FI⟩ := hd9 hwj hb3 hoo hhd bo hwo cI ho fi; clear hwj hb3 hoo hhd bo hwo cI ho fi
                                     go_wp2_with fail
                                     go_fit CI.out; rintro e we ⟨rfl,hb⟩
                                     have hwe := bel_trans HWO.out hb
                                     clear hb
                                     have HWE := Lib.hid hwe; clear hwe
                                     go_wp2_with fail
                                     go_roundw
                                     case rel => exact ⟨jj + 1,by omega,by go_num,HWE.out⟩
                                     case measure => simp [intOf]; omega
                                   · have hin := (HSH.out hm1 jj o ho).1 hjk
                                     have zn : IntKind.i64.wrap (-o) = -o := IntWalk.i64_in _ (by omega)
                                     have n1 : ((jj : Int) != (k : Int)) = true := by simp; omega
                                     have n2 : ((jj : Int) == (k : Int)) = false := by simp; omega
                                     have n3 : decide ((jj : Int) = (k : Int)) = false := decide_eq_false (by omega)
                                     have bo : Blk (wd.alloc (.cells #[.int .i64 (-o)] 3)) wd.heap.size 3 #[.int .i64 (-o)] := blk_new rfl _ _
                                     have hwo := bel_trans hwj (bel_alloc wd (.cells #[.int .i64 (-o)] 3))
                                     have s4 : (wd.alloc (.cells #[.int .i64 (-o)] 3)).cell? ⟨gs,4,none⟩ = some (.slice bA2 bl2 bc2) := (BS4.out.bel hwo).cell 4
                                     have cI := in_any (some ⟨wd.heap.size,0,none⟩) 1 1 bA2 bl2 bc2 [-o] s.body _ (sl_one bo (by unfold I64; omega)) (Q3C.out.ext hwo)
                                     rw [hin] at cI
                                     obtain ⟨HWJ,HB3,HOO,HIN,BO,HWO,CI,HO,FI,HJK⟩ := hd10 hwj hb3 hoo hin bo hwo cI ho fi hjk; clear hwj hb3 hoo hin bo hwo cI ho fi hjk
                                     go_wp2_with fail
                                     go_fit CI.out; rintro e we ⟨rfl,rfl⟩
                                     go_wp2_with fail
                                     go_roundw
                                     case rel => exact ⟨jj + 1,by omega,by go_num,HWO.out⟩
                                     case measure => simp [intOf]; omega)
                              · have hmI : ¬ (1 : Int) < (mn : Int) := by omega
                                obtain ⟨HWJ,HB3,HOO,HO,FI,HM1⟩ := hd6 hwj hb3 hoo ho fi hm1; clear hwj hb3 hoo ho fi hm1
                                go_wp2_with fail
                                go_roundw
                                case rel => exact ⟨jj + 1,by omega,by go_num,HWJ.out⟩
                                case measure => simp [intOf]; omega
                            · have s4 : wd.cell? ⟨gs,4,none⟩ = some (.slice bA2 bl2 bc2) := (BS4.out.bel hwj).cell 4
                              have r4 : wd.cell? ⟨gr,4,none⟩ = some (.slice bA bl bc) := (B5.out.bel hwj).cell 4
                              have cI := in_any bA bl bc bA2 bl2 bc2 r.body s.body wd (G3C.out.ext hwj) (Q3C.out.ext hwj)
                              rw [HSB.out] at cI
                              have hwz : Below wa.heap.size wa wd := bel_trans HWC.out hwj
                              obtain ⟨HWJ,CI,HWZ⟩ := hd3 hwj cI hwz; clear hwj cI hwz
                              go_wp2_with fail
                              go_fit CI.out; rintro e we ⟨rfl,rfl⟩
                              go_wp2_with fail
                              go_roundw
                              case rel => exact ⟨k + 1,an + 1,by omega,by have := HAN.out; omega,by go_num,by go_num,HWZ.out⟩
                              case measure => simp [intOf]; omega
                        · have hkm : k = mn := by omega
                          have hwz := bel_trans HW9.out hwk
                          have hfin : (sfL (QR.take (j + 1)) p.n).length = an := by have := HCM.out; omega
                          obtain ⟨HWK,HWZ,HFIN,HAN,HKM⟩ := hd5 hwk hwz hfin han hkm; clear hwk hwz hfin han hkm
                          go_wp2_with fail
                          go_roundw
                          case rel => exact ⟨j + 1,by omega,by go_num,by rw [HFIN.out],HWZ.out⟩
                          case measure => simp [intOf]; omega
                  · have hjl : j = l := by omega
                    subst hjl
                    have hbx := HBX.out.bel hw
                    have hbt := HBT.out.bel hw
                    have hP8 := HP7.out.ext hw
                    have hw8 := bel_trans HW7.out hw
                    have htk : (sfL (QR.take j) p.n).length = mE := by rw [List.take_of_length_le (by have := HQL.out; omega)]; exact HML.out.symm
                    rw [htk]
                    have HBL := Lib.hid hw8
                    clear hw8
                    have t3 : wu.cell? ⟨gx,3,none⟩ = some (.slice rE mE fE) := hbt.cell 3
                    obtain ⟨HBX,HBT,HP8,HTK,HW⟩ := hd5 hbx hbt hP8 htk hw; clear hbx hbt hP8 htk hw
                    go_wp2_with fail
                    go_fit (CA.out _); rintro e wz ⟨rfl,hbz⟩
                    have HBZ := Lib.hid (bel_trans HBL.out hbz)
                    clear hbz
                    go_wp2_with fail
                    go_ret
                    exact ⟨rfl,HBZ.out⟩
    · obtain ⟨v,hve⟩ : ∃ v,v = validE p := ⟨_,rfl⟩
      rw [← hve] at cV hv
      have q1 : (v != 0) = true := by simpa using hv
      obtain ⟨HP,CF,CV,CA,BW,BP,HF,HV,HVE⟩ := hd9 hp cF cV cA bW bP hf hv hve; clear hp cF cV cA bW bP hf hv hve
      go_enter Tryz.func5,Tryz.ntmps5
      go_wp2_with fail
      go_fit (CF.out _ BW.out); rintro e w1 ⟨rfl,hb⟩
      have HBP := BP
      have HBL := BW
      have hbp := HBP.out.bel hb
      have HBL' := Lib.hid (bel_trans HBL.out hb)
      clear hb HBP HBL
      have HBL := HBL'
      clear HBL'
      obtain ⟨p0,p1,p2,p3,p4,p5⟩ := pcells hbp
      have HBP := Lib.hid hbp; clear hbp
      go_wp2_with fail
      clear p0 p1 p2 p3 p4 p5
      go_fit (CV.out _ HBL.out); rintro e w2 ⟨rfl,hb⟩
      have HBL' := Lib.hid (bel_trans HBL.out hb)
      clear hb HBL
      have HBL := HBL'
      clear HBL'
      go_wp2_with fail
      go_fit (CA.out _); rintro e wz ⟨rfl,hbz⟩
      have HBZ := Lib.hid (bel_trans HBL.out hbz)
      clear hbz
      go_wp2_with fail
      go_ret
      exact ⟨rfl,HBZ.out⟩
end Go.Proofs.YthdjkenhkedjjaaGreat

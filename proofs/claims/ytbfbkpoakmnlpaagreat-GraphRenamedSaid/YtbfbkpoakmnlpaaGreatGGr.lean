/- Several texts in one: Gis, Grn. -/
import Derived.Test.YtbfbkpoakmnlpaaGreatGO
import Derived.Test.YtbfbkpoakmnlpaaGreatGN
/- Graphs of programs that a permutation of the atoms turns into each other, plain. -/
namespace Go.Proofs.YtbfbkpoakmnlpaaGreat
open Go.RowKit
structure Giso (p q : GProg) (f : Int → Int) : Prop where
 n : q.n = p.n
 pi : ProgIs p
 qi : ProgIs q
 rng : ∀ a,1 ≤ a → a ≤ p.n → 1 ≤ f a ∧ f a ≤ p.n
 inj : ∀ a b,1 ≤ a → a ≤ p.n → 1 ≤ b → b ≤ p.n → f a = f b → a = b
 onto : ∀ y,1 ≤ y → y ≤ p.n → ∃ x,1 ≤ x ∧ x ≤ p.n ∧ f x = y
 edge : ∀ a b,1 ≤ a → a ≤ p.n → 1 ≤ b → b ≤ p.n → (EdgeP p a b ↔ EdgeP q (f a) (f b))
section
variable {p q : GProg} {f : Int → Int} (h : Giso p q f)
include h
theorem Giso.n0 : 0 ≤ p.n := (namedB_n h.pi.named).1
theorem Giso.gp : GOk (ofL p) := of_ok h.pi h.n0 (namedB_n h.pi.named).2
theorem Giso.gq : GOk (ofL q) := of_ok h.qi (namedB_n h.qi.named).1 (namedB_n h.qi.named).2
theorem Giso.row {a b : Int} (a1 : 1 ≤ a) (a2 : a ≤ p.n) (b1 : 1 ≤ b) (b2 : b ≤ p.n) : b ∈ rowZ (ofL p) a ↔ f b ∈ rowZ (ofL q) (f a) := by
 have h0 := h.n0
 have ha := h.rng a a1 a2
 have hq := h.n
 rw [of_edge h0 (by omega) a2,of_edge (by omega) (by omega) (by omega)]
 exact h.edge a b a1 a2 b1 b2
theorem Giso.ent {a b : Int} (hb : b ∈ rowZ (ofL p) a) : 1 ≤ b ∧ b ≤ p.n := by
 have := h.gp.ent a b hb
 rw [of_len] at this
 have := h.n0
 omega
theorem Giso.entq {a b : Int} (hb : b ∈ rowZ (ofL q) a) : 1 ≤ b ∧ b ≤ p.n := by
 have := h.gq.ent a b hb
 rw [of_len,h.n] at this
 have := h.n0
 omega
theorem Giso.wlk : ∀ (k : Nat) {a b : Int},1 ≤ a → a ≤ p.n → 1 ≤ b → b ≤ p.n → (Wlk (ofL p) k a b ↔ Wlk (ofL q) k (f a) (f b))
 | 0,a,b,a1,a2,b1,b2 => ⟨fun e => by have e : a = b := e; subst e; exact rfl,fun e => h.inj a b a1 a2 b1 b2 e⟩
 | k + 1,a,b,a1,a2,b1,b2 => by
  constructor
  ·rintro ⟨c,hc,hw⟩
   have hr := h.ent hc
   exact ⟨f c,(h.row a1 a2 hr.1 hr.2).1 hc,(Giso.wlk k hr.1 hr.2 b1 b2).1 hw⟩
  ·rintro ⟨c,hc,hw⟩
   have hr := h.entq hc
   obtain ⟨d,d1,d2,rfl⟩ := h.onto c hr.1 hr.2
   exact ⟨d,(h.row a1 a2 d1 d2).2 hc,(Giso.wlk k d1 d2 b1 b2).2 hw⟩
theorem Giso.rch {a b : Int} (a1 : 1 ≤ a) (a2 : a ≤ p.n) (b1 : 1 ≤ b) (b2 : b ≤ p.n) : Rch (ofL p) a b ↔ Rch (ofL q) (f a) (f b) := by
 constructor
 ·intro hr
  obtain ⟨k,hk⟩ := rch_wlk hr
  exact wlk_rch k ((h.wlk k a1 a2 b1 b2).1 hk)
 ·intro hr
  obtain ⟨k,hk⟩ := rch_wlk hr
  exact wlk_rch k ((h.wlk k a1 a2 b1 b2).2 hk)
theorem Giso.nums {a b : Int} (a1 : 1 ≤ a) (a2 : a ≤ p.n) (b1 : 1 ≤ b) (b2 : b ≤ p.n) : nthZ (numsL p) (a - 1) = nthZ (numsL p) (b - 1) ↔ nthZ (numsL q) (f a - 1) = nthZ (numsL q) (f b - 1) := by
 have ha := h.rng a a1 a2
 have hb := h.rng b b1 b2
 have hq := h.n
 rw [nums_same h.pi a1 a2 b1 b2,nums_same h.qi ha.1 (by omega) hb.1 (by omega),h.rch a1 a2 b1 b2,h.rch b1 b2 a1 a2]
def mvE (f : Int → Int) (e : Int × Int) : Int × Int := (f e.1,f e.2)
theorem Giso.mem {x y : Int} : (x,y) ∈ edgeL p → 1 ≤ x ∧ x ≤ p.n ∧ 1 ≤ y ∧ y ≤ p.n := fun he => by
 obtain ⟨e1,e2,e3⟩ := (edgeL_mem x y).1 he
 have := h.ent e1
 have hn := h.n0
 obtain ⟨r,hr,ha,-⟩ := (of_edge hn e2 (by omega)).1 e1
 have := (inc_mem (h.pi.rules r hr).head _ ha)
 omega
theorem Giso.memq {x y : Int} : (x,y) ∈ edgeL q → 1 ≤ x ∧ x ≤ p.n ∧ 1 ≤ y ∧ y ≤ p.n := fun he => by
 obtain ⟨e1,e2,e3⟩ := (edgeL_mem x y).1 he
 have := h.entq e1
 have hn := h.n0
 have hq := h.n
 obtain ⟨r,hr,ha,-⟩ := (of_edge (p := q) (by omega) e2 (by omega)).1 e1
 have := (inc_mem (h.qi.rules r hr).head _ ha)
 omega
theorem Giso.found {e : Int × Int} (he : e ∈ edgeL p) : mvE f e ∈ edgeL q := by
 obtain ⟨x,y⟩ := e
 have hm := h.mem he
 obtain ⟨e1,e2,e3⟩ := (edgeL_mem x y).1 he
 have hx := h.rng x hm.1 hm.2.1
 have hn := h.n0
 have hq := h.n
 exact (edgeL_mem _ _).2 ⟨(h.row hm.1 hm.2.1 hm.2.2.1 hm.2.2.2).1 e1,by show 0 ≤ f x; omega,by show f x ≤ _; omega⟩
omit h in
theorem edge_nodup {r : GProg} (hi : ProgIs r) : (edgeL r).Nodup := by
 have h0 : 0 ≤ r.n := (namedB_n hi.named).1
 unfold edgeL List.Nodup
 rw [List.flatMap_def,List.pairwise_flatten]
 refine ⟨fun l hl => ?_,?_⟩
 ·obtain ⟨a,ha,rfl⟩ := List.mem_map.1 hl
  unfold rowPr
  rw [List.pairwise_map]
  exact (List.nodup_iff_pairwise_ne.1 (row_nodup h0 (a : Int))).imp fun hne e => hne (by injection e)
 ·rw [List.pairwise_map]
  refine List.nodup_range.imp fun {a b} hne x hx y hy e => ?_
  subst e
  unfold rowPr at hx hy
  obtain ⟨_,_,e1⟩ := List.mem_map.1 hx
  obtain ⟨_,_,e2⟩ := List.mem_map.1 hy
  rw [← e2] at e1
  injection e1 with e1 _
  exact hne (by omega)
omit h in
theorem nodup_sub2 : ∀ (l m : List (Int × Int)),l.Nodup → (∀ x ∈ l,x ∈ m) → l.length ≤ m.length
 | [],_,_,_ => Nat.zero_le _
 | a :: l,m,h,hs => by
  rw [List.nodup_cons] at h
  have ha := hs a (List.mem_cons_self ..)
  have := nodup_sub2 l (m.erase a) h.2 (fun x hx => (List.mem_erase_of_ne (fun e => h.1 (by rw [← e]; exact hx))).2 (hs x (List.mem_cons_of_mem _ hx)))
  rw [List.length_erase_of_mem ha] at this
  have := List.length_pos_of_mem ha
  rw [List.length_cons]; omega
theorem Giso.elen : (edgeL p).length = (edgeL q).length := by
 have h1 : ((edgeL p).map (mvE f)).Nodup := by
  unfold List.Nodup
  rw [List.pairwise_map]
  refine (List.Pairwise.and_mem.1 (List.nodup_iff_pairwise_ne.1 (edge_nodup h.pi))).imp ?_
  rintro ⟨x,y⟩ ⟨z,u⟩ ⟨hx,hy,hne⟩ e
  have m1 := h.mem hx
  have m2 := h.mem hy
  injection e with e1 e2
  exact hne (by rw [h.inj x z m1.1 m1.2.1 m2.1 m2.2.1 e1,h.inj y u m1.2.2.1 m1.2.2.2 m2.2.2.1 m2.2.2.2 e2])
 have h2 := nodup_sub2 _ (edgeL q) h1 (fun e he => by
  obtain ⟨x,hx,rfl⟩ := List.mem_map.1 he
  exact h.found hx)
 have h3 := nodup_sub2 (edgeL q) ((edgeL p).map (mvE f)) (edge_nodup h.qi) (fun e he => by
  obtain ⟨x,y⟩ := e
  have hm := h.memq he
  obtain ⟨a,a1,a2,rfl⟩ := h.onto x hm.1 hm.2.1
  obtain ⟨b,b1,b2,rfl⟩ := h.onto y hm.2.2.1 hm.2.2.2
  obtain ⟨e1,-⟩ := (edgeL_mem _ _).1 he
  have hn := h.n0
  exact List.mem_map.2 ⟨(a,b),(edgeL_mem _ _).2 ⟨(h.row a1 a2 b1 b2).2 e1,by omega,by omega⟩,rfl⟩)
 rw [List.length_map] at h2 h3
 omega
theorem Giso.best : BestOk (ofL p) p.n (cycL p) ∧ BestOk (ofL q) p.n (cycL q) := by
 have hn := h.n0
 have hq := h.n
 have h1 := cyc_ok h.gp (N := p.n.toNat) (of_len p) p.n.toNat (Nat.le_refl _)
 have h2 := cyc_ok h.gq (N := q.n.toNat) (of_len q) q.n.toNat (Nat.le_refl _)
 rw [show ((p.n.toNat : Nat) : Int) = p.n by omega] at h1
 rw [show ((q.n.toNat : Nat) : Int) = p.n by omega] at h2
 exact ⟨h1,h2⟩
theorem Giso.clen : (cycL p).length = (cycL q).length := by
 have hn := h.n0
 have hq := h.n
 have hlp := of_len p
 have hlq := of_len q
 obtain ⟨h1,h2⟩ := h.best
 -- a way round in the one is a way round in the other
 have pq : ∀ (a : Int) (j : Nat),1 ≤ a → a ≤ p.n → Pth (ofL p) a j a → ∃ (c : Int) (i : Nat),1 ≤ c ∧ c ≤ p.n ∧ i ≤ j ∧ Pth (ofL q) c i c := fun a j a1 a2 hp => by
  cases j with
  | zero => exact hp.elim
  | succ j =>
   have hw := (h.wlk (j + 1) a1 a2 a1 a2).1 (pth_wlk _ hp)
   have hr := h.rng a a1 a2
   obtain ⟨c,i,c1,c2,hi,hpc⟩ := closed_pth h.gq (f a).toNat (f a) hr.1 (Nat.le_refl _) j hw
   exact ⟨c,i,c1,by omega,hi,hpc⟩
 have qp : ∀ (a : Int) (j : Nat),1 ≤ a → a ≤ p.n → Pth (ofL q) a j a → ∃ (c : Int) (i : Nat),1 ≤ c ∧ c ≤ p.n ∧ i ≤ j ∧ Pth (ofL p) c i c := fun a j a1 a2 hp => by
  cases j with
  | zero => exact hp.elim
  | succ j =>
   obtain ⟨b,b1,b2,rfl⟩ := h.onto a a1 a2
   have hw := (h.wlk (j + 1) b1 b2 b1 b2).2 (pth_wlk _ hp)
   obtain ⟨c,i,c1,c2,hi,hpc⟩ := closed_pth h.gp b.toNat b b1 (Nat.le_refl _) j hw
   exact ⟨c,i,c1,by omega,hi,hpc⟩
 have frp : ∀ {fr : Int},CycOk (ofL p) fr (cycL p) → 1 ≤ fr ∧ fr ≤ p.n := fun {fr} hc => by
  obtain ⟨t,e,-⟩ := hc.ex
  have := hc.rng fr (by rw [e]; exact List.mem_cons_self ..)
  omega
 have frq : ∀ {fr : Int},CycOk (ofL q) fr (cycL q) → 1 ≤ fr ∧ fr ≤ p.n := fun {fr} hc => by
  obtain ⟨t,e,-⟩ := hc.ex
  have := hc.rng fr (by rw [e]; exact List.mem_cons_self ..)
  omega
 rcases h1 with ⟨e1,n1⟩ | ⟨e1,⟨fr1,c1⟩,m1⟩
 ·rcases h2 with ⟨e2,-⟩ | ⟨e2,⟨fr2,c2⟩,-⟩
  ·rw [e1,e2]
  ·have hf := frq c2
   obtain ⟨c,i,q1,q2,-,hp⟩ := qp fr2 _ hf.1 hf.2 c2.way
   exact absurd hp (n1 c q1 q2 i)
 ·have hf := frp c1
  obtain ⟨c,i,q1,q2,qi,hp⟩ := pq fr1 _ hf.1 hf.2 c1.way
  rcases h2 with ⟨e2,n2⟩ | ⟨e2,⟨fr2,c2⟩,m2⟩
  ·exact absurd hp (n2 c q1 q2 i)
  ·have hf2 := frq c2
   obtain ⟨c',i',r1,r2,ri,hp'⟩ := qp fr2 _ hf2.1 hf2.2 c2.way
   have := m2 c q1 q2 i hp
   have := m1 c' r1 r2 i' hp'
   omega
end
theorem free_mem {p : GProg} (hi : ProgIs p) : freeB p = true ↔ ∀ r ∈ p.rules,r.choice = false → ∀ a ∈ r.head,∀ b ∈ r.head,a ≠ b → ¬ (Rch (ofL p) a b ∧ Rch (ofL p) b a) := by
 rw [free_want hi,List.all_eq_true]
 have key : ∀ a b : Int,1 ≤ a → 1 ≤ b → a ≠ b → (pairB (rchL p) false a b = true ↔ ¬ (Rch (ofL p) a b ∧ Rch (ofL p) b a)) := fun a b a1 b1 hne => by
  rw [rch_plus hne,rch_plus (Ne.symm hne),← bit_ok hi (by omega) (by omega),← bit_ok hi (by omega) (by omega)]
  unfold pairB
  cases bitN (rchL p) a b <;> cases bitN (rchL p) b a <;> simp
 constructor
 ·intro h r hr hch a ha b hb hne
  have hrr := inc_mem (hi.rules r hr).head
  have hpw := inc_pair (hi.rules r hr).head
  have hw := h r hr
  unfold wantR at hw
  simp only [List.all_eq_true,List.mem_range,hch] at hw
  obtain ⟨i,hii⟩ := List.getElem?_of_mem ha
  obtain ⟨j,hjj⟩ := List.getElem?_of_mem hb
  obtain ⟨i1,ei⟩ := List.getElem?_eq_some_iff.1 hii
  obtain ⟨j1,ej⟩ := List.getElem?_eq_some_iff.1 hjj
  have gi : r.head.getD i 0 = a := by rw [List.getD_eq_getElem?_getD,hii]; rfl
  have gj : r.head.getD j 0 = b := by rw [List.getD_eq_getElem?_getD,hjj]; rfl
  have a1 := (hrr a ha).1
  have b1 := (hrr b hb).1
  rcases Nat.lt_trichotomy i j with q | q | q
  ·have := hw j j1 i q
   rw [gi,gj] at this
   exact fun z => ((key b a b1 a1 (Ne.symm hne)).1 this) ⟨z.2,z.1⟩
  ·subst q; rw [ei] at ej; exact absurd ej hne
  ·have := hw i i1 j q
   rw [gi,gj] at this
   exact (key a b a1 b1 hne).1 this
 ·intro h r hr
  have hrr := inc_mem (hi.rules r hr).head
  have hpw := inc_pair (hi.rules r hr).head
  rw [List.pairwise_iff_getElem] at hpw
  unfold wantR
  simp only [List.all_eq_true,List.mem_range]
  intro i hi' j hj
  cases hch : r.choice with
  | true => rfl
  | false =>
   have hmi := List.getElem_mem hi'
   have hmj := List.getElem_mem (show j < r.head.length by omega)
   have hlt := hpw j i (by omega) hi' hj
   rw [List.getD_eq_getElem?_getD,List.getD_eq_getElem?_getD,List.getElem?_eq_getElem hi',List.getElem?_eq_getElem (show j < r.head.length by omega)]
   simp only [Option.getD_some]
   exact (key _ _ (hrr _ hmi).1 (hrr _ hmj).1 (by omega)).2 (h r hr hch _ hmi _ hmj (by omega))
end Go.Proofs.YtbfbkpoakmnlpaaGreat
/- A program whose atoms are permuted, plain: its graph is the permuted graph. -/
namespace Go.Proofs.YtbfbkpoakmnlpaaGreat
open Go.RowKit
theorem ren_head {pm : List Int} {r : GRule} {y : Int} : y ∈ (normR (mvR (mvI pm) r)).head ↔ ∃ a ∈ r.head,mvI pm a = y := by
 show y ∈ litsOf (r.head.map (mvI pm)) ↔ _
 rw [lits_mem,List.mem_map]
section
variable {p : GProg} {pm : List Int} (hi : ProgIs p) (h : PermOf pm p.n)
include hi h
theorem ren_head1 {r : GRule} (hr : r ∈ p.rules) {a : Int} (a1 : 1 ≤ a) (a2 : a ≤ p.n) : mvI pm a ∈ (normR (mvR (mvI pm) r)).head ↔ a ∈ r.head := by
 rw [ren_head]
 constructor
 ·rintro ⟨b,hb,e⟩
  have := inc_mem (hi.rules r hr).head b hb
  have := mv_inj h this ⟨a1,a2⟩ e
  subst this; exact hb
 ·intro ha; exact ⟨a,ha,rfl⟩
theorem ren_body1 {r : GRule} (hr : r ∈ p.rules) {b : Int} (b1 : 1 ≤ b) (b2 : b ≤ p.n) : mvI pm b ∈ (normR (mvR (mvI pm) r)).body ↔ b ∈ r.body := by
 show mvI pm b ∈ litsOf (r.body.map (mvI pm)) ↔ _
 rw [lits_mem,List.mem_map]
 constructor
 ·rintro ⟨l,hl,e⟩
  have hlit := ord_lit (hi.rules r hr).body l hl
  have hb := mv_pos h b1 b2
  rcases lit_cases hlit with q | ⟨c,rfl,c1,c2⟩
  ·have := mv_inj h q ⟨b1,b2⟩ e
   subst this; exact hl
  ·rw [mv_neg h c1 c2] at e
   have := mv_pos h c1 c2
   omega
 ·intro hb; exact ⟨b,hb,rfl⟩
theorem ren_iso : Giso p (renP pm p) (mvI pm) := by
 refine ⟨rfl,hi,renP_is hi h,fun a a1 a2 => mv_pos h a1 a2,fun a b a1 a2 b1 b2 e => mv_inj h ⟨a1,a2⟩ ⟨b1,b2⟩ e,fun y y1 y2 => mv_onto h y1 y2,fun a b a1 a2 b1 b2 => ?_⟩
 have hb := mv_pos h b1 b2
 constructor
 ·rintro ⟨r,hr,q1,q2,-⟩
  exact ⟨_,List.mem_map.2 ⟨r,hr,rfl⟩,(ren_head1 hi h hr a1 a2).2 q1,(ren_body1 hi h hr b1 b2).2 q2,by omega⟩
 ·rintro ⟨r',hr',q1,q2,-⟩
  obtain ⟨r,hr,rfl⟩ := List.mem_map.1 hr'
  exact ⟨r,hr,(ren_head1 hi h hr a1 a2).1 q1,(ren_body1 hi h hr b1 b2).1 q2,by omega⟩
theorem ren_free : freeB p = freeB (renP pm p) := by
 have hz := ren_iso hi h
 rw [Bool.eq_iff_iff,free_mem hi,free_mem hz.qi]
 constructor
 ·intro hf r' hr' hch a' ha' b' hb' hne
  obtain ⟨r,hr,rfl⟩ := List.mem_map.1 hr'
  obtain ⟨a,ha,rfl⟩ := (ren_head).1 ha'
  obtain ⟨b,hb,rfl⟩ := (ren_head).1 hb'
  have ra := inc_mem (hi.rules r hr).head a ha
  have rb := inc_mem (hi.rules r hr).head b hb
  have := hf r hr hch a ha b hb (fun e => hne (by rw [e]))
  rw [hz.rch ra.1 ra.2 rb.1 rb.2,hz.rch rb.1 rb.2 ra.1 ra.2] at this
  exact this
 ·intro hf r hr hch a ha b hb hne
  have ra := inc_mem (hi.rules r hr).head a ha
  have rb := inc_mem (hi.rules r hr).head b hb
  rw [hz.rch ra.1 ra.2 rb.1 rb.2,hz.rch rb.1 rb.2 ra.1 ra.2]
  exact hf _ (List.mem_map.2 ⟨r,hr,rfl⟩) hch _ ((ren_head1 hi h hr ra.1 ra.2).2 ha) _ ((ren_head1 hi h hr rb.1 rb.2).2 hb) (fun e => hne (mv_inj h ra rb e))
end
end Go.Proofs.YtbfbkpoakmnlpaaGreat

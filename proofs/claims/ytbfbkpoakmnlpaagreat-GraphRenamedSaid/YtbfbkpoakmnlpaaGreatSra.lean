/- Laws for the walk of graph.sorted: the edges between comps, one by one; what the arrays hold. -/
import Derived.Test.YtbfbkpoakmnlpaaGreatGR
import Derived.Test.YtbfbkpoakmnlpaaGreatCpn
namespace Go.Proofs.YtbfbkpoakmnlpaaGreat
open Go.RowKit
def rowE (at_ : List Int) (a : Int) (l : List Int) : List (Int × Int) := (l.filter fun b => decide (nthZ at_ a ≠ nthZ at_ b)).map fun b => (nthZ at_ a,nthZ at_ b)
def edK (g : List (List Int)) (at_ : List Int) (k : Nat) : List (Int × Int) := (List.range k).flatMap fun (i : Nat) => rowE at_ ((i : Int) + 1) (rowZ g ((i : Int) + 1))
theorem edK_end (g : List (List Int)) (at_ : List Int) : edK g at_ (g.length - 1) = edgeE g at_ := rfl
def edJ (g : List (List Int)) (at_ : List Int) (k j : Nat) : List (Int × Int) := edK g at_ k ++ rowE at_ ((k : Int) + 1) ((rowZ g ((k : Int) + 1)).take j)
theorem edJ_zero (g : List (List Int)) (at_ : List Int) (k : Nat) : edJ g at_ k 0 = edK g at_ k := by unfold edJ rowE; simp
theorem edJ_end (g : List (List Int)) (at_ : List Int) (k : Nat) : edJ g at_ k (rowZ g ((k : Int) + 1)).length = edK g at_ (k + 1) := by
 unfold edJ edK
 rw [List.take_length,List.range_succ,List.flatMap_append]; simp
theorem edJ_step {g : List (List Int)} {at_ : List Int} {k j : Nat} {b : Int} (h : (rowZ g ((k : Int) + 1))[j]? = some b) : edJ g at_ k (j + 1) = if nthZ at_ ((k : Int) + 1) = nthZ at_ b then edJ g at_ k j else edJ g at_ k j ++ [(nthZ at_ ((k : Int) + 1),nthZ at_ b)] := by
 unfold edJ rowE
 rw [List.take_add_one,h,List.filter_append,List.map_append,← List.append_assoc]
 by_cases e : nthZ at_ ((k : Int) + 1) = nthZ at_ b
 ·rw [if_pos e]; simp [e]
 ·rw [if_neg e]; simp [e]
theorem edK_len {g : List (List Int)} (hg : GOk g) (at_ : List Int) : ∀ k : Nat,(edK g at_ k).length ≤ k * 4001
 | 0 => by simp [edK]
 | k + 1 => by
  have ih := edK_len hg at_ k
  have e : edK g at_ (k + 1) = edK g at_ k ++ rowE at_ ((k : Int) + 1) (rowZ g ((k : Int) + 1)) := by unfold edK; rw [List.range_succ,List.flatMap_append]; simp
  have h1 : (rowE at_ ((k : Int) + 1) (rowZ g ((k : Int) + 1))).length ≤ 4001 := by
   unfold rowE
   rw [List.length_map]
   exact Nat.le_trans (List.length_filter_le _ _) (hg.deg _)
  rw [e,List.length_append,Nat.add_mul]; omega
theorem edJ_len {g : List (List Int)} (hg : GOk g) (at_ : List Int) {k : Nat} (hk : k ≤ 4001) (j : Nat) : (edJ g at_ k j).length ≤ 20000000 := by
 have h1 := edK_len hg at_ k
 have h2 : k * 4001 ≤ 4001 * 4001 := Nat.mul_le_mul_right _ hk
 have h3 : (rowE at_ ((k : Int) + 1) ((rowZ g ((k : Int) + 1)).take j)).length ≤ 4001 := by
  unfold rowE
  rw [List.length_map]
  refine Nat.le_trans (List.length_filter_le _ _) (Nat.le_trans ?_ (hg.deg ((k : Int) + 1)))
  rw [List.length_take]; exact Nat.min_le_right _ _
 unfold edJ
 rw [List.length_append]; omega
def needL (E : List (Int × Int)) (m : Nat) : List Int := (List.range m).map fun (i : Nat) => (needN E [] (i : Int) : Int)
def waitU (E : List (Int × Int)) (i : Nat) : List Int := waitL E (i : Int)
theorem needN_le (E : List (Int × Int)) (ord : List Int) (k : Int) : needN E ord k ≤ E.length := List.length_filter_le _ _
theorem wait_len (E : List (Int × Int)) (i : Int) : (waitL E i).length ≤ E.length := by unfold waitL; rw [List.length_map]; exact List.length_filter_le _ _
theorem needL_len (E : List (Int × Int)) (m : Nat) : (needL E m).length = m := by unfold needL; simp
theorem needL_nil (m : Nat) : needL [] m = List.replicate m 0 := by
 unfold needL needN
 apply List.ext_getElem?
 intro i
 rcases Nat.lt_or_ge i m with h | h
 ·rw [List.getElem?_map,List.getElem?_range h,List.getElem?_replicate,if_pos h]; rfl
 ·rw [List.getElem?_eq_none (by simpa using h),List.getElem?_eq_none (by simpa using h)]
theorem needL_at (E : List (Int × Int)) {m x : Nat} (h : x < m) : nthZ (needL E m) (x : Int) = (needN E [] (x : Int) : Int) := by
 unfold nthZ needL
 rw [Int.toNat_natCast,List.getD_eq_getElem?_getD,List.getElem?_map,List.getElem?_range h]; rfl
theorem needL_snoc (E : List (Int × Int)) {m x : Nat} (h : x < m) (y : Int) : needL (E ++ [((x : Int),y)]) m = updZ (needL E m) (x : Int) (nthZ (needL E m) (x : Int) + 1) := by
 rw [needL_at E h]
 unfold updZ
 apply List.ext_getElem?
 intro i
 rw [List.getElem?_set,Int.toNat_natCast,needL_len]
 rcases Nat.lt_or_ge i m with hi | hi
 ·unfold needL
  rw [List.getElem?_map,List.getElem?_map,List.getElem?_range hi]
  by_cases e : x = i
  ·subst e
   simp [needN,List.filter_append,h]
  ·have e2 : ¬ (x : Int) = (i : Int) := by omega
   simp [needN,List.filter_append,e,e2]
 ·rw [List.getElem?_eq_none (by rw [needL_len]; exact hi),List.getElem?_eq_none (by rw [needL_len]; exact hi)]
  by_cases e : x = i
  ·omega
  ·rw [if_neg e]
theorem waitU_snoc (E : List (Int × Int)) (x : Int) (y : Nat) : waitU (E ++ [(x,(y : Int))]) = updG (waitU E) y (waitU E y ++ [x]) := by
 funext i
 unfold waitU updG waitL
 rw [List.filter_append,List.map_append]
 by_cases e : i = y
 ·subst e; simp
 ·have e2 : ¬ (y : Int) = (i : Int) := by omega
  simp [e,e2]
theorem comp_len {g cs : List (List Int)} (h : CompOk g cs) : cs.length ≤ g.length := by
 have hn : (cs.map fun c => c.headD 0).Nodup := by
  refine List.nodup_iff_pairwise_ne.2 ?_
  rw [List.pairwise_map]
  refine h.dis.imp_of_mem fun {c d} hc hd hcd e => ?_
  have h1 := head_mem (h.inc c hc).1
  have h2 := head_mem (h.inc d hd).1
  rw [e] at h1
  exact hcd _ h1 h2
 have := nodup_le g.length _ hn (fun k hk => by
  obtain ⟨c,hc,rfl⟩ := List.mem_map.1 hk
  have := h.rng c hc _ (head_mem (h.inc c hc).1)
  omega)
 simpa using this
theorem numL_len (n : Nat) (cs : List (List Int)) : (numL n cs).length = n + 1 := by unfold numL; rw [numGo_len]; simp
theorem num_rng {g cs : List (List Int)} (h : CompOk g cs) (h1 : 1 ≤ g.length) {x : Int} (x1 : 1 ≤ x) (x2 : x < (g.length : Int)) : 0 ≤ nthZ (numL (g.length - 1) cs) x ∧ nthZ (numL (g.length - 1) cs) x < (cs.length : Int) := by
 obtain ⟨i,c,hi,hx⟩ := h.get x1 x2
 rw [numL_at h h1 hi hx]
 have := (List.getElem?_eq_some_iff.1 hi).1
 omega
theorem GrowI.keptO {w w' : World} {base ub n : Nat} {U : Nat → List Int} {us : Nat → Value} {ls : Nat → Nat} {S : List Nat} (h : GrowI w base ub n U us ls) (hk : Kept S w w') (hu : ub ∉ S) (hS : ∀ a,a < n → ∀ k ∈ S,(us a).ownBlock ≠ some k) : GrowI w' base ub n U us ls :=
 ⟨hk.blk h.blk hu,fun a ha => (h.own a ha).keptS hk (fun k hq hm => hS a ha k hm hq),h.ne⟩
structure SrS (w : World) (cA : Option Addr) (cl cc c3 ub nb wb B : Nat) (at_ : List Int) (W : World) (nd : List Int) (U : Nat → List Int) (us : Nat → Value) (ls : Nat → Nat) : Prop where
 bc : Blk W c3 44 #[.slice cA cl cc]
 ba : Blk W ub 3 (intC at_)
 bn : Blk W nb 3 (intC nd)
 gr : GrowI W B wb cl U us ls
 bel : Below w.heap.size w W
 sz : B ≤ W.heap.size
 lo : (w.heap.size ≤ c3 ∧ c3 < ub) ∧ (ub < nb ∧ ub < wb) ∧ (nb < B ∧ wb < B) ∧ nb ≠ wb
section
variable {w : World} {cA : Option Addr} {cl cc c3 ub nb wb B : Nat} {at_ : List Int} {W W' : World} {nd : List Int} {U : Nat → List Int} {us : Nat → Value} {ls : Nat → Nat}
theorem SrS.ext (h : SrS w cA cl cc c3 ub nb wb B at_ W nd U us ls) (hb : Below W.heap.size W W') : SrS w cA cl cc c3 ub nb wb B at_ W' nd U us ls :=
 ⟨h.bc.bel hb,h.ba.bel hb,h.bn.bel hb,h.gr.bel hb,bel_trans h.bel hb,Nat.le_trans h.sz hb.size,h.lo⟩
theorem SrS.kept (h : SrS w cA cl cc c3 ub nb wb B at_ W nd U us ls) {S : List Nat} (hk : Kept S W W') (hS : ∀ k ∈ S,B ≤ k ∧ ∀ a,a < cl → (us a).ownBlock ≠ some k) : SrS w cA cl cc c3 ub nb wb B at_ W' nd U us ls := by
 obtain ⟨⟨l1,l2⟩,⟨l3,l4⟩,⟨l5,l6⟩,l7⟩ := h.lo
 have off : ∀ k,k < B → k ∉ S := fun k hk hm => by have := (hS k hm).1; omega
 exact ⟨hk.blk h.bc (off _ (by omega)),hk.blk h.ba (off _ (by omega)),hk.blk h.bn (off _ l5),h.gr.keptO hk (off _ l6) (fun a ha k hm => (hS k hm).2 a ha),Kept.below h.bel hk h.bel.size (fun k hm => by have := (hS k hm).1; omega),Nat.le_trans h.sz hk.size,h.lo⟩
theorem SrS.setN (h : SrS w cA cl cc c3 ub nb wb B at_ W nd U us ls) (a : Nat) (v : Int) : SrS w cA cl cc c3 ub nb wb B at_ (W.setCell ⟨nb,a,none⟩ (.int .i64 v)) (updZ nd (a : Int) v) U us ls := by
 obtain ⟨⟨l1,l2⟩,⟨l3,l4⟩,⟨l5,l6⟩,l7⟩ := h.lo
 have hk : Kept [nb] W (W.setCell ⟨nb,a,none⟩ (.int .i64 v)) := (Kept.refl _ _).set (.inl (by simp)) _
 have hb := h.bn.set_ a (.int .i64 v)
 rw [updZ_cells nd (a : Int) v (by omega) a rfl] at hb
 exact ⟨h.bc.far (show c3 ≠ nb by omega) _,h.ba.far (show ub ≠ nb by omega) _,hb,h.gr.keptS hk (by simp; omega) (by simp; omega),Kept.below h.bel hk h.bel.size (by simp; omega),Nat.le_trans h.sz hk.size,h.lo⟩
theorem SrS.app (h : SrS w cA cl cc c3 ub nb wb B at_ W nd U us ls) {a : Nat} (ha : a < cl) {v' : Value} {l' : Nat} {xs : List Int} (ho : OwnI W' B v' l' xs) (hg : W.grownBy W' (us a).ownBlock) (hv : ∀ k,v'.ownBlock = some k → (us a).ownBlock = some k ∨ W.heap.size ≤ k) :
  SrS w cA cl cc c3 ub nb wb B at_ (W'.setCell ⟨wb,a,none⟩ v') nd (updG U a xs) (fun j => if j = a then v' else us j) (fun j => if j = a then l' else ls j) := by
 obtain ⟨⟨l1,l2⟩,⟨l3,l4⟩,⟨l5,l6⟩,l7⟩ := h.lo
 have hlow : ∀ k,k < B → some k ≠ (us a).ownBlock := fun k hk e => by have := ((h.gr.own a ha).2.lt k e.symm).1; omega
 have hb : Below w.heap.size w W' := bel_grown h.bel hg h.bel.size (fun k hk => by have := ((h.gr.own a ha).2.lt k hk).1; omega)
 exact ⟨(h.bc.grown hg (hlow _ (by omega))).far (show c3 ≠ wb by omega) _,(h.ba.grown hg (hlow _ (by omega))).far (show ub ≠ wb by omega) _,(h.bn.grown hg (hlow _ (by omega))).far (show nb ≠ wb by omega) _,h.gr.app l6 ha ho hg hv,
  Kept.below hb ((Kept.refl [wb] W').set (.inl (by simp)) _) hb.size (by simp; omega),by have := h.sz; have := hg.size; simp [World.setCell]; omega,h.lo⟩
end
def slLen2 : Value → Nat
 | .slice _ l _ => l
 | _ => 0
theorem decAll_snoc (f : Int → Int) : ∀ (l : List Int) (s : List Int × List Int) (k : Int),decAll f (l ++ [k]) s = (updZ (decAll f l s).1 k (nthZ (decAll f l s).1 k - 1),if nthZ (decAll f l s).1 k - 1 = 0 then putR f (decAll f l s).2 k else (decAll f l s).2)
 | [],(nd,rd),k => rfl
 | x :: l,(nd,rd),k => by rw [List.cons_append,decAll,decAll_snoc f l,decAll]
theorem dec_pre {E : List (Int × Int)} {m : Nat} {f : Int → Int} (hE : EOk E m f) {s : KS} (h : KInv E m f s) {i : Int} {r : List Int} (hr : s.rd = i :: r) (q : Nat) :
  (decAll f ((waitL E i).take q) (s.nd,r)).1.length = m ∧ (decAll f ((waitL E i).take q) (s.nd,r)).2.Pairwise (fun x y => f x < f y) ∧ (∀ k ∈ (decAll f ((waitL E i).take q) (s.nd,r)).2,0 ≤ k ∧ k < (m : Int)) ∧
  ∀ k,(waitL E i)[q]? = some k → 0 ≤ k ∧ k < (m : Int) ∧ 1 ≤ nthZ (decAll f ((waitL E i).take q) (s.nd,r)).1 k ∧ nthZ (decAll f ((waitL E i).take q) (s.nd,r)).1 k ≤ E.length ∧ k ∉ (decAll f ((waitL E i).take q) (s.nd,r)).2 := by
 have hi := h.rrng i (by rw [hr]; simp)
 have hsrt := h.srt
 rw [hr,List.pairwise_cons] at hsrt
 have hir := (h.rd i hi.1 hi.2).1 (by rw [hr]; simp)
 have hwE : ∀ k ∈ waitL E i,(k,i) ∈ E := fun k hk => (wait_mem E i k).1 hk
 have hwr : ∀ k ∈ waitL E i,0 ≤ k ∧ k < (m : Int) := fun k hk => by have := hE.e _ (hwE k hk); exact ⟨this.1,this.2.1⟩
 have hcnt : ∀ k,0 ≤ k → k < (m : Int) → nthZ s.nd k = ((waitL E i).count k : Int) + needN E (s.ord ++ [i]) k := fun k k0 k1 => by
  rw [h.need k k0 k1,need_split i k s.ord hir.1]; omega
 have hnr : ∀ k ∈ waitL E i,k ∉ r := fun k hk hm => by
  have hk2 := hwr k hk
  have h2 := ((h.rd k hk2.1 hk2.2).1 (by rw [hr]; exact List.mem_cons_of_mem _ hm)).2
  have h3 := hcnt k hk2.1 hk2.2
  have h4 := List.count_pos_iff.2 hk
  omega
 have hsub : ((waitL E i).take q).Sublist (waitL E i) := List.take_sublist _ _
 obtain ⟨d1,d2,d3,d4⟩ := dec_spec f m hE.f ((waitL E i).take q) s.nd r h.len (fun k hk => hwr k (hsub.subset hk)) (fun k hk => h.rrng k (by rw [hr]; exact List.mem_cons_of_mem _ hk)) (fun k hk => by
  have hk2 := hwr k (hsub.subset hk)
  have h1 := hsub.count_le k
  have h2 := hcnt k hk2.1 hk2.2
  omega) (fun k hk => hnr k (hsub.subset hk)) hsrt.2
 refine ⟨d1,d4,fun k hk => ?_,fun k hk => ?_⟩
 ·rcases (d3 k).1 hk with q1 | q1
  ·exact h.rrng k (by rw [hr]; exact List.mem_cons_of_mem _ q1)
  ·exact hwr k (hsub.subset q1.1)
 ·have hkm := List.mem_of_getElem? hk
  have hk2 := hwr k hkm
  have h2 := hcnt k hk2.1 hk2.2
  have hc : ((waitL E i).take q).count k + 1 ≤ (waitL E i).count k := by
   have h3 : ((waitL E i).take (q + 1)).count k ≤ (waitL E i).count k := (List.take_sublist _ _).count_le k
   rw [List.take_add_one,hk,List.count_append] at h3
   simpa using h3
  have h5 := needN_le E s.ord k
  have h6 := h.need k hk2.1 hk2.2
  rw [d2 k hk2.1 hk2.2]
  refine ⟨hk2.1,hk2.2,by omega,by omega,fun hm => ?_⟩
  rcases (d3 k).1 hm with q1 | q1
  ·exact hnr k hkm q1
  ·omega
theorem rd_len {f : Int → Int} {m : Nat} {rd : List Int} (h : rd.Pairwise fun x y => f x < f y) (hr : ∀ k ∈ rd,0 ≤ k ∧ k < (m : Int)) : rd.length ≤ m :=
 nodup_le m rd (List.nodup_iff_pairwise_ne.2 (h.imp fun hlt e => by subst e; omega)) hr
def rdK (f : Int → Int) (E : List (Int × Int)) (n : Nat) : List Int := (List.range n).foldl (fun rd (i : Nat) => if needN E [] (i : Int) = 0 then putR f rd (i : Int) else rd) []
theorem rdK_succ (f : Int → Int) (E : List (Int × Int)) (n : Nat) : rdK f E (n + 1) = if needN E [] (n : Int) = 0 then putR f (rdK f E n) (n : Int) else rdK f E n := by
 unfold rdK; rw [List.range_succ,List.foldl_append]; rfl
theorem kIter_succ (f : Int → Int) (W : Int → List Int) : ∀ (n : Nat) (s : KS),kIter f W (n + 1) s = kStep f W (kIter f W n s)
 | 0,s => rfl
 | n + 1,s => by rw [kIter,kIter_succ f W n]; rfl
theorem kIter_add (f : Int → Int) (W : Int → List Int) : ∀ (m n : Nat) (s : KS),kIter f W (m + n) s = kIter f W n (kIter f W m s)
 | 0,n,s => by rw [Nat.zero_add]; rfl
 | m + 1,n,s => by rw [Nat.add_right_comm,kIter,kIter_add f W m n,kIter]
theorem kIter_stop {f : Int → Int} {W : Int → List Int} : ∀ (n : Nat) {s : KS},s.rd = [] → kIter f W n s = s
 | 0,s,_ => rfl
 | n + 1,s,h => by
  have e : kStep f W s = s := by unfold kStep; rw [h]
  rw [kIter,e,kIter_stop n h]
theorem kOrd_of {E : List (Int × Int)} {m n : Nat} {f : Int → Int} (hn : n ≤ m) (hr : (kIter f (waitL E) n (kInit f E m)).rd = []) : kOrd f E m = (kIter f (waitL E) n (kInit f E m)).ord := by
 unfold kOrd
 obtain ⟨d,rfl⟩ : ∃ d,m = n + d := ⟨m - n,by omega⟩
 rw [kIter_add,kIter_stop d hr]
theorem ety_fr (B : Nat) : ElTy (frR B) 44 23 (.slice none 0 0) 24 := ⟨Tryz.underlying44,by kernel_rfl,rfl,by omega⟩
end Go.Proofs.YtbfbkpoakmnlpaaGreat

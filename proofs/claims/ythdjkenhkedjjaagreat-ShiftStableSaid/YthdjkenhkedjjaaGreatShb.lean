/- Shb -/
import Derived.Test.YthdjkenhkedjjaaGreatGSb
namespace Go.Proofs.YthdjkenhkedjjaaGreat
theorem stab_norm (rs:LG)(m:LI):StabP (rs.map normR) m↔StabP rs m:=by
 unfold StabP;constructor
 ·rintro⟨h1,h2⟩
  refine⟨fun r hr=>by rw[← satB_norm];exact h1 _ (List.mem_map_of_mem hr),fun s hs hr=>h2 s hs fun q hq=>?_⟩
  obtain⟨r,hr',rfl⟩:=List.mem_map.1 hq
  rw[redB_norm];exact hr r hr'
 ·rintro⟨h1,h2⟩
  refine⟨fun q hq=>?_,fun s hs hr=>h2 s hs fun r hr'=>by rw[← redB_norm];exact hr _ (List.mem_map_of_mem hr')⟩
  obtain⟨r,hr',rfl⟩:=List.mem_map.1 hq
  rw[satB_norm];exact h1 r hr'
theorem isL_stab {p:GProg}(hi:ProgIs p){m:LI}(hm:incB p.n m=true):isL p m=true↔StabP p.rules m:=isL_sem hi hm (namedB_n hi.named).1
theorem isL_shift {p:GProg}(hi:ProgIs p)(hso:SfOk p){m:LI}(hm:incB (sfP p).n m=true):isL (sfP p) m=true↔StabP (sfL p.rules p.n) m:=by
 rw[isL_stab (sf_is hi hso) hm,sf_rules,stab_norm]
theorem stable_lift {p:GProg}(hi:ProgIs p)(hf:freeB p=true)(hso:SfOk p){m:LI}(hm:m∈allL p):liftL p m∈allL (sfP p):=by
 have h0:=(namedB_n hi.named).1;rw[all_mem p h0]at hm;have hinc:=lift_inc hi hm.1;rw[all_mem (sfP p) (by rw[sfP_n];omega)]
 refine⟨hinc,(isL_shift hi hso hinc).2 (stab_shift hi (free_lev hi hf) (lift_agr m) (fun a ha=>(inc_mem hm.1 a ha).2) (lift_lf hm.1) (fun a ha=>?_) ((isL_stab hi hm.1).1 hm.2))⟩
 have:=(inc_mem hinc a ha).2
 rwa [sfP_n]at this
def cutL (p:GProg)(m:LI):LI:=m.filter fun a=>decide (a≤p.n)
theorem stable_cut {p:GProg}(hi:ProgIs p)(hso:SfOk p){m:LI}(hm:m∈allL (sfP p)):cutL p m∈allL p∧liftL p (cutL p m)=m:=by
 have h0:=(namedB_n hi.named).1;rw[all_mem (sfP p) (by rw[sfP_n];omega)]at hm;have hs:=(isL_shift hi hso hm.1).1 hm.2;have hmm:=inc_mem hm.1;have hmem:∀a,a∈cutL p m↔a∈m∧a≤p.n:=fun a=>by unfold cutL;rw[List.mem_filter,decide_eq_true_eq]
 have hA:Agr p.n (cutL p m) m:=fun a ha=>by rw[hmem];exact⟨fun h=>⟨h,ha⟩,fun h=>h.1⟩
 have hcn:∀a∈cutL p m,a≤p.n:=fun a ha=>((hmem a).1 ha).2;have hci:incB p.n (cutL p m)=true:=inc_make (fun x hx=>by have:=hmm x ((hmem x).1 hx).1;have:=hcn x hx;omega) ((inc_pair hm.1).filter _);have hlf:=shift_ok hi hA hs
 refine⟨(all_mem p h0 _).2 ⟨hci,(isL_stab hi hci).2 (shift_stab hi hA hcn hs)⟩,?_⟩
 refine inc_ext (inc_pair (lift_inc hi hci)) (inc_pair hm.1) fun a=>?_;unfold liftL;rw[List.mem_append,lfF_mem];constructor
 ·rintro(h | ⟨k,r,hk,hd,hb,rfl⟩)
  ·exact((hmem a).1 h).1
  ·exact(hlf k r hk hd).2 hb
 ·intro ha
  by_cases han:a≤p.n
  ·exact .inl ((hmem a).2 ⟨ha,han⟩)
  ·have h1:=(hmm a ha).2;rw[sfP_n]at h1
   obtain⟨k,r,hk,hd,rfl⟩:=sfA_all (show p.n<a by omega) h1
   exact .inr ⟨k,r,hk,hd,(hlf k r hk hd).1 ha,rfl⟩
theorem cut_lift {p:GProg}{m:LI}(hm:incB p.n m=true):cutL p (liftL p m)=m:=by
 unfold cutL liftL;rw[List.filter_append,List.filter_eq_self.2 (fun a ha=>decide_eq_true (inc_mem hm a ha).2),List.filter_eq_nil_iff.2 (fun a ha=>by have:=lift_gt a ha;simp;omega),List.append_nil]
theorem sub_len {α:Type} [DecidableEq α]:∀(l m:List α),l.Nodup→(∀x∈l,x∈m)→l.length≤m.length
 |[],m,_,_=>Nat.zero_le _
 |x::t,m,h,hs=>by
  rw[List.nodup_cons]at h;have hx:=hs x (by simp);have h1:=sub_len t (m.erase x) h.2 fun y hy=>(List.mem_erase_of_ne (fun e=>h.1 (by rw[← e];exact hy))).2 (hs y (by simp[hy]));have h2:=List.length_erase_of_mem hx;have h3:=List.length_pos_of_mem hx;rw[List.length_cons];omega
theorem stable_len {p:GProg}(hi:ProgIs p)(hf:freeB p=true)(hso:SfOk p):(allL p).length=(allL (sfP p)).length:=by
 have h0:=(namedB_n hi.named).1
 have n1:((allL p).map (liftL p)).Nodup:=by
  unfold List.Nodup;rw[List.pairwise_map]
  refine(List.Pairwise.and_mem.1 (all_nodup p)).imp ?_
  rintro a b ⟨ha,hb,hab⟩ e;have h1:=cut_lift ((all_mem p h0 a).1 ha).1;have h2:=cut_lift ((all_mem p h0 b).1 hb).1;rw[e,h2]at h1;exact hab h1.symm
 have n2:((allL (sfP p)).map (cutL p)).Nodup:=by
  unfold List.Nodup;rw[List.pairwise_map]
  refine(List.Pairwise.and_mem.1 (all_nodup (sfP p))).imp ?_
  rintro a b ⟨ha,hb,hab⟩ e;have h1:=(stable_cut hi hso ha).2;have h2:=(stable_cut hi hso hb).2;rw[e,h2]at h1;exact hab h1.symm
 have l1:=sub_len _ (allL (sfP p)) n1 fun x hx=>by obtain⟨m,hm,rfl⟩:=List.mem_map.1 hx;exact stable_lift hi hf hso hm
 have l2:=sub_len _ (allL p) n2 fun x hx=>by obtain⟨m,hm,rfl⟩:=List.mem_map.1 hx;exact(stable_cut hi hso hm).1
 rw[List.length_map]at l1 l2;omega

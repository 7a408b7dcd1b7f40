/- Inv -/
import Derived.Test.YthdjkenhkedjjaaGreatG6
import Derived.Deep.RegionHeld3
namespace Go.Proofs.YthdjkenhkedjjaaGreat
open Go.RowKit
theorem ready_spec {md:Region.Mode}{ops:Array Oper}{listed:Array Bool}{i:Nat}(h:i∈Region.ready md ops listed):
  ∃o,ops[i]? = some o∧listed.getD i true=false∧∀e∈o.after,Region.binds md e=true→listed.getD e.on false=true:=by
 unfold Region.ready at h;rw[List.mem_filter,Bool.and_eq_true,Bool.not_eq_true']at h
 obtain⟨_,h1,h2⟩:=h
 cases ho:ops[i]? with
 |none=>rw[ho]at h2;simp at h2
 |some o=>
  rw[ho]at h2;simp only[Option.map_some,Option.getD_some]at h2;rw[Array.all_eq_true_iff_forall_mem]at h2
  exact⟨o,rfl,h1,fun e he hb=>by
   have:=h2 e he
   rw[hb]at this
   simpa using this⟩
theorem ready_nil {md:Region.Mode}{ops:Array Oper}{listed:Array Bool}(h:Region.ready md ops listed=[]){i:Nat}{o:Oper}(hi:ops[i]? = some o)(hd:∀e∈o.after,Region.binds md e=true→listed.getD e.on false=true):listed.getD i true=true:=by
 cases hl:listed.getD i true with
 |true=>rfl
 |false=>
  exfalso;have hlt:i<ops.size:=(Array.getElem?_eq_some_iff.1 hi).1
  have:i∈Region.ready md ops listed:=by
   unfold Region.ready;rw[List.mem_filter,List.mem_range,hl,hi,Bool.and_eq_true]
   refine⟨hlt,rfl,?_⟩
   simp only[Option.map_some,Option.getD_some];rw[Array.all_eq_true_iff_forall_mem];intro e he
   cases hb:Region.binds md e with
   |false=>rfl
   |true=>rw[hd e he hb];rfl
  rw[h]at this;cases this
theorem Zqn {md:Region.Mode}{ops:Array Oper}{listed:Array Bool}(h:Region.ready md ops listed=[])(i:Nat){o:Oper}(hi:ops[i]? = some o)(hd:∀e∈o.after,Region.binds md e=true→listed.getD e.on false=true:=by first | (simp;done) | (simp;intro q;exact absurd q (by decide))):listed.getD i true=true:=ready_nil h hi hd
theorem count_set_true {l:Array Bool}{i:Nat}(h:l.getD i true=false):(l.setIfInBounds i true).toList.count false+1=l.toList.count false:=by
 have hi:i<l.size:=by
  rcases Nat.lt_or_ge i l.size with hlt | hge
  ·exact hlt
  ·rw[Array.getD_eq_getD_getElem?,Array.getElem?_eq_none hge]at h;simp at h
 have hv:l.toList[i]'(by simpa using hi)=false:=by
  rw[Array.getD_eq_getD_getElem?,Array.getElem?_eq_getElem hi]at h
  simpa using h
 have hc:0<l.toList.count false:=List.count_pos_iff.2 (by rw[← hv];exact List.getElem_mem _);rw[Array.toList_setIfInBounds,List.count_set (by simpa using hi),hv];simp only[show (false==false)=true from rfl,show (true==false)=false from rfl,if_true,Bool.false_eq_true,if_false];omega
section
variable {P : Program} {ops : Array Oper} {Q : Exit → Act → World → Prop}
theorem wpAny_inv (J:Array Bool→Act→World→Prop)
  (hstep:∀listed a w i o,J listed a w→ops[i]? = some o→listed.getD i true=false→(∀e∈o.after,Region.binds .any e=true→listed.getD e.on false=true) →
   ∀K:Act→World→Prop,(∀a' w',J (listed.setIfInBounds i true) a' w'→K a' w')→if Region.wanted o (yielded ops a.tmps)=true then o.wp P a w K Q else K (a.put o.dst undef) w)
  (hend:∀listed a w,J listed a w→Region.ready .any ops listed=[]→Q .normal a w):∀(fuel:Nat) (listed:Array Bool) (a:Act) (w:World),J listed a w→listed.toList.count false≤fuel→wpAny P .any ops Q fuel listed a w
 |0,listed,a,w,hJ,hf=>by
  have hr:Region.ready .any ops listed=[]:=by
   cases hl:Region.ready .any ops listed with
   |nil=>rfl
   |cons i r=>
    obtain⟨o,_,h2,_⟩:=ready_spec (i:=i) (by rw[hl];simp)
    have:=count_set_true h2
    omega
  exact⟨hr,hend _ _ _ hJ hr⟩
 |fuel+1,listed,a,w,hJ,hf=>by
  refine⟨hend _ _ _ hJ,fun i hi=>?_⟩
  obtain⟨o,h1,h2,h3⟩:=ready_spec hi
  have hc:=count_set_true h2;have hs:=hstep listed a w i o hJ h1 h2 h3 (wpAny P .any ops Q fuel (listed.setIfInBounds i true)) (fun a' w' hJ'=>wpAny_inv J hstep hend fuel _ a' w' hJ' (by omega));unfold wpOp;rw[h1];simp only;split
  ·rename_i hw
   rw[if_pos hw]at hs;exact .inl hs
  ·rename_i hw
   rw[if_neg hw]at hs;exact hs
theorem wp_region_inv {id:Nat}{a:Act}{w:World}(J:Array Bool→Act→World→Prop)(hm:P.follows .mixedOrders=true)(h0:J (Array.replicate ops.size false) a w.drew)
  (hstep:∀listed a w i o,J listed a w→ops[i]? = some o→listed.getD i true=false→(∀e∈o.after,Region.binds .any e=true→listed.getD e.on false=true) →
   ∀K:Act→World→Prop,(∀a' w',J (listed.setIfInBounds i true) a' w'→K a' w')→if Region.wanted o (yielded ops a.tmps)=true then o.wp P a w K Q else K (a.put o.dst undef) w)
  (hend:∀listed a w,J listed a w→Region.ready .any ops listed=[]→Q .normal a w):(Code.region id ops true).wp P Q a w:=
 wp_region_any hm (wpAny_inv J hstep hend ops.size _ _ _ h0 (by
  rw[Array.toList_replicate]
  have:=List.count_le_length (a:=false) (l:=List.replicate ops.size false)
  rw[List.length_replicate]at this;exact this))
end

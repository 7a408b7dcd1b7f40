/- GU -/
import Derived.Test.YthdjkenhkedjjaaGreatInsi
import Derived.Test.YthdjkenhkedjjaaGreatCpt
import Derived.Shelf.Spec.SlicesInsertGrow
import Derived.Test.YthdjkenhkedjjaaGreatCpn
set_option maxRecDepth 100000
set_option maxHeartbeats 4000000
namespace Go.Proofs.YthdjkenhkedjjaaGreat
open Go.RowKit
open Go.RowKit Go.Shelf
def OwnO (W:World)(B:Nat)(v:Value)(xs:LI):Prop:=(v=.slice none 0 0∧xs=[]) ∨
 ∃g o cap cur,v=.slice (some ⟨g,o,none⟩) xs.length cap∧B≤g∧Blk W g 3 cur∧xs.length≤cap∧cap≤9223372036854775807∧o+cap≤cur.size∧∀i x,xs[i]? = some x→cur[o+i]? = some (.int .i64 x)
open Go.RowKit
end Go.Proofs.YthdjkenhkedjjaaGreat
namespace Go.Proofs.YthdjkenhkedjjaaGreat
open Go.RowKit
section
variable {w : World} {cA : OA} {cl cc c3 ub nb wb B : Nat} {at_ : LI} {W W' : World} {nd : LI} {U : Nat → LI} {us : Nat → Value} {ls : Nat → Nat}
end
end Go.Proofs.YthdjkenhkedjjaaGreat
namespace Go.Proofs.YthdjkenhkedjjaaGreat
open Go.RowKit
end Go.Proofs.YthdjkenhkedjjaaGreat
namespace Go.Proofs.YthdjkenhkedjjaaGreat
open Go.RowKit
open Go.RowKit
open Go.RowKit Go.Maps
def disL (ks:LI):LI:=ks.foldl (fun acc x=>if x∈acc then acc else acc++[x]) []
def disN (ks:LI):Nat:=(disL ks).length
theorem disL_snoc (ks:LI)(x:Int):disL (ks++[x])=if x∈disL ks then disL ks else disL ks++[x]:=by unfold disL;rw[List.foldl_append];rfl
theorem disL_fold:∀(ks acc:LI)(x:Int),x∈ks.foldl (fun acc x=>if x∈acc then acc else acc++[x]) acc↔x∈acc∨x∈ks
 |[],acc,x=>by simp
 |k::r,acc,x=>by
  rw[List.foldl_cons,disL_fold r]
  by_cases h:k∈acc
  ·rw[if_pos h,List.mem_cons];constructor
   ·rintro(q | q)
    ·exact .inl q
    ·exact .inr (.inr q)
   ·rintro(q | q | q)
    ·exact .inl q
    ·subst q;exact .inl h
    ·exact .inr q
  ·rw[if_neg h,List.mem_append,List.mem_singleton,List.mem_cons,or_assoc]
theorem disL_mem (ks:LI)(x:Int):x∈disL ks↔x∈ks:=by unfold disL;rw[disL_fold];simp
theorem disN_snoc (ks:LI)(x:Int):disN (ks++[x])=if x∈ks then disN ks else disN ks+1:=by
 unfold disN;rw[disL_snoc]
 by_cases h:x∈ks
 ·rw[if_pos h,if_pos ((disL_mem ks x).2 h)]
 ·rw[if_neg h,if_neg (fun q=>h ((disL_mem ks x).1 q)),List.length_append];rfl
def DMap (w:World)(B:Nat)(ks:LI):Prop:=∃D:DataW Unit,w.ownsMap Tryz.prog 3 (plainElem Tryz.prog 3) B ks.length D∧(∀x:Int,has D (.int .i64 x)=decide (x∈ks))∧Maps.size D=disN ks∧∀x:Int,∃c:Int,D.atKey (.int .i64 x) (.lit (.int .i64 0))=.lit (.int .i64 c)∧0≤c∧c≤(ks.length:Int)
theorem DMap.new (w:World):DMap (w.alloc (.map #[] 0)) w.heap.size []:=
 ⟨.map [],World.ownsMap_made _ _ _ _,fun x=>rfl,rfl,fun x=>⟨0,rfl,Int.le_refl _,by simp⟩⟩
section
variable {w w' : World} {B : Nat} {ks : LI}
theorem DMap.look (h:DMap w B ks)(x:Int)(hx:I64 x):∃c:Int,(Instr.lookup 96 (.map (some B)) (.int .i64 x) false).run Tryz.prog w=.ok (.int .i64 c) w∧0≤c∧c≤(ks.length:Int):=by
 obtain⟨D,h1,h2,h3,h4⟩:=h
 obtain⟨c,hrun,hat,_⟩:=h1.lookup_int key_int Tryz.underlying96 Tryz.underlying3 (zero_int w) (keyOf_int_mk Tryz.underlying3 (WalkArith.wf_i64 ⟨hx.1,hx.2⟩))
 obtain⟨c2,e,c0,c1⟩:=h4 x
 rw[hat]at e;simp only[DataW.lit.injEq,Lit.int.injEq,true_and]at e;subst e
 exact⟨c,hrun,c0,c1⟩
theorem DMap.put (h:DMap w B ks)(x:Int)(hx:I64 x)(hn:ks.length<1000000)(v:Int)(hv:0≤v)(hv2:v≤(ks.length:Int)+1):
  ∃w',(Instr.mapUpdate 96 (.map (some B)) (.int .i64 x) (.int .i64 v)).run Tryz.prog w=.ok () w'∧DMap w' B (ks++[x])∧w.grownBy w' (some B):=by
 obtain⟨D,h1,h2,h3,h4⟩:=h
 have ht:=h1.tidy key_int
 obtain⟨w',hrun,ho,hg⟩:=h1.update key_int Tryz.underlying96 (by unfold maxLen;omega) (keyOf_int_mk Tryz.underlying3 (WalkArith.wf_i64 ⟨hx.1,hx.2⟩)) (plainElem_int Tryz.underlying3 (WalkArith.wf_i64 (n:=v) ⟨by omega,by omega⟩))
 have hk:WideAt.IsKeyLit (.int .i64 x):=trivial;have hne:∀y:Int,y≠x→(Lit.int .i64 y)≠(Lit.int .i64 x):=fun y e q=>e (by simpa using q)
 refine⟨w',hrun,⟨_,by rw[List.length_append];exact ho,fun y=>?_,?_,fun y=>?_⟩,hg⟩
 ·by_cases e:y=x
  ·subst e;rw[has_put_same ht.isMap hk];simp
  ·rw[has_put_other (hne y e),h2];simp[e]
 ·rw[size_put ht,h2,h3,disN_snoc]
  by_cases e:x∈ks <;> simp[e]
 ·rw[List.length_append]
  by_cases e:y=x
  ·subst e
   exact⟨v,atKey_put_same ht.isMap hk _ _,hv,by simpa using hv2⟩
  ·obtain⟨c,e1,c0,c1⟩:=h4 y
   exact⟨c,by rw[atKey_put_other (hne y e)];exact e1,c0,by simp;omega⟩
theorem DMap.len (h:DMap w B ks)(ty:TypeId):(Builtin.len_ #[96] ty #[.map (some B)]).run Tryz.prog w=.ok (.int .i64 (disN ks:Int)) w:=by
 obtain⟨D,h1,h2,h3,h4⟩:=h
 rw[← h3];exact h1.len Tryz.underlying96 ty
end
def hfB (at_:LI)(r:GRule):Bool:=!r.choice && decide (disN (r.head.map fun a=>nthZ at_ a)<r.head.length)
def freeB (p:GProg):Bool:=!(p.rules.any (hfB (numL p.n.toNat (compT (ofL p)))))
theorem hcf1_any (a1 ub n:Nat)(at_:LI)(r:GRule)(hA:OA)(hl hc:Nat)(bA:OA)(bl bc:Nat)(wA:OA)(wl wc:Nat)(w:World)(hr:RuleIn w r hA hl hc bA bl bc wA wl wc)(hb1:Blk w a1 23 #[.slice (some ⟨ub,0,none⟩) n n])(hbu:Blk w ub 3 (intC at_))(hlat:at_.length=n)(_:n≤5000)(hh:∀a∈r.head,0≤a∧a<(n:Int))(hat:∀x∈at_,I64 x)(hhl:r.head.length≤5000):
  Calls Tryz.prog 66 #[.agg #[.bool r.choice,.slice hA hl hc,.bool r.sum,.int .i64 r.bound,.slice bA bl bc,.slice wA wl wc],.pointer (some ⟨a1,0,none⟩)] w fun e w'=>e=.returned (.bool (hfB at_ r))∧Below w.heap.size w w':=by
 have hhc:=hr.head.cap;have hhm:=hr.head.max;have hhn:=hr.head.len
 obtain⟨ch,hch⟩:∃ch,ch=r.choice:=⟨_,rfl⟩
 rw[← hch];have hx0:Blk (w.alloc (.cells #[.bool ch,.slice hA hl hc,.bool r.sum,.int .i64 r.bound,.slice bA bl bc,.slice wA wl wc] 42)) w.heap.size 42 #[.bool ch,.slice hA hl hc,.bool r.sum,.int .i64 r.bound,.slice bA bl bc,.slice wA wl wc]:=blk_new rfl _ _;have hx1:=hx0.alloc (.map #[] 0)
 have hm0:DMap ((w.alloc (.cells #[.bool ch,.slice hA hl hc,.bool r.sum,.int .i64 r.bound,.slice bA bl bc,.slice wA wl wc] 42)).alloc (.map #[] 0)) (w.heap.size+1) []:=by
  have h:=DMap.new (w.alloc (.cells #[.bool ch,.slice hA hl hc,.bool r.sum,.int .i64 r.bound,.slice bA bl bc,.slice wA wl wc] 42))
  rwa [show (w.alloc (.cells #[.bool ch,.slice hA hl hc,.bool r.sum,.int .i64 r.bound,.slice bA bl bc,.slice wA wl wc] 42)).heap.size=w.heap.size+1 by simp]at h
 have hbw:Below w.heap.size w ((w.alloc (.cells #[.bool ch,.slice hA hl hc,.bool r.sum,.int .i64 r.bound,.slice bA bl bc,.slice wA wl wc] 42)).alloc (.map #[] 0)):=bel_trans (bel_alloc _ _) (bel_alloc _ _);have m0:((w.alloc (.cells #[.bool ch,.slice hA hl hc,.bool r.sum,.int .i64 r.bound,.slice bA bl bc,.slice wA wl wc] 42)).alloc (.map #[] 0)).cell? ⟨w.heap.size,1,none⟩=some (.slice hA hl hc):=hx1.cell 1;have hmm:=@run_makeMap Tryz.prog
 obtain⟨HR,HB1,HBU,HLAT,HH,HAT,HHN,HCH,HX0,HX1,HM0,HBW⟩:=Zq12 hr hb1 hbu hlat hh hat hhn hch hx0 hx1 hm0 hbw;clear hr hb1 hbu hlat hh hat hhn hch hx0 hx1 hm0 hbw
 go_enter Tryz.func66,Tryz.ntmps66;go_wp2_with fail;clear m0;generalize (w.alloc (.cells #[.bool ch,.slice hA hl hc,.bool r.sum,.int .i64 r.bound,.slice bA bl bc,.slice wA wl wc] 42)).alloc (.map #[] 0)=W1 at *;go_loopw [11] (fun t wr=>∃k:Nat,k≤hl∧t=.int .i64 (k:Int)∧DMap wr (w.heap.size+1) ((r.head.take k).map fun a=>nthZ at_ a)∧Below w.heap.size w wr∧Blk wr w.heap.size 42 #[.bool ch,.slice hA hl hc,.bool r.sum,.int .i64 r.bound,.slice bA bl bc,.slice wA wl wc]) (fun t _=>hl-(intOf t).toNat)
 case atStart=>exact⟨0,Nat.zero_le _,rfl,HM0.out,HBW.out,HX1.out⟩
 case round=>
  obtain⟨k,hk,rfl,hm,hb,hx⟩:=hrel
  obtain⟨wo,rfl⟩:∃wo:World,wo=wr:=⟨_,rfl⟩
  by_cases hlt:k<hl
  ·obtain⟨a,ha,-⟩:=HR.out.head.drop hlt
   obtain⟨ab,ao,rfl,la,ca,a64⟩:=(HR.out.head.ext hb).int ha
   obtain⟨a0,a9⟩:=HH.out a (List.mem_of_getElem? ha)
   obtain⟨an,rfl⟩:∃an:Nat,a=(an:Int):=⟨a.toNat,by omega⟩
   have han:an<n:=(by omega)
   obtain⟨z,hz⟩:∃z,z=nthZ at_ (an:Int):=⟨_,rfl⟩
   have hzm:I64 z:=HAT.out z (by
    have:=nth_some HLAT.out han
    rw[← hz]at this;exact List.mem_of_getElem? this)
   have m1:wo.cell? ⟨a1,0,none⟩=some (.slice (some ⟨ub,0,none⟩) n n):=(HB1.out.bel hb).cell 0;have m2:wo.cell? ⟨ub,an,none⟩=some (.int .i64 z):=(by rw[(HBU.out.bel hb).cell,intC_at HLAT.out han,hz]);have k0:(0:Int)≤(k:Int):=(by omega);have k1:(k:Int)<(hl:Int):=(by omega);have q0:(0:Int)≤(an:Int):=(by omega);have q1:(an:Int)<(n:Int):=(by omega)
   have hkl:((r.head.take k).map fun a=>nthZ at_ a).length≤5000:=by
    rw[List.length_map,List.length_take]
    have:=HHN.out;omega
   obtain⟨c,hlk,c0,c1⟩:=hm.look z hzm
   obtain⟨w5,hput,hm5,hg5⟩:=hm.put z hzm (by omega) (c+1) (by omega) (by omega)
   have hcb:c≤5000:=(by omega);have hb5:=hb.grown hg5 hb.size (fun q hq=>by cases hq;omega);have hx5:=hx.grown hg5 (by simp)
   have hsn:((r.head.take k).map fun a=>nthZ at_ a)++[z]=(r.head.take (k+1)).map fun a=>nthZ at_ a:=by
    rw[take_snoc' ha,List.map_append,hz];rfl
   rw[hsn]at hm5
   obtain⟨HA,A64,HZ,HZM,HM,HB,HX,HM5,HG5,HB5,HX5,HSN⟩:=Zq12 ha a64 hz hzm hm hb hx hm5 hg5 hb5 hx5 hsn;clear ha a64 hz hzm hm hb hx hm5 hg5 hb5 hx5 hsn
   have HKL:=Zq1 hkl;clear hkl;go_wp2_with fail;go_roundw;exact⟨k+1,by omega,by go_num,HM5.out,HB5.out,HX5.out⟩;simp[intOf];omega
  ·obtain rfl:hl=k:=(by omega);have hta:r.head.take hl=r.head:=List.take_of_length_le (by have:=HHN.out;omega);rw[hta]at hm
   obtain⟨d,hd⟩:∃d,d=disN (r.head.map fun a=>nthZ at_ a):=⟨_,rfl⟩
   have hlen:=fun ty=>hm.len ty;rw[← hd]at hlen;have m3:wo.cell? ⟨w.heap.size,0,none⟩=some (.bool ch):=hx.cell 0;have m4:wo.cell? ⟨w.heap.size,1,none⟩=some (.slice hA hl hc):=hx.cell 1
   have hres:hfB at_ r=(!ch && decide (d<hl)):=by
    unfold hfB;rw[← HCH.out,← hd,← HHN.out]
   obtain⟨tb,htb⟩:∃tb,tb=decide (d<hl):=⟨_,rfl⟩
   rw[← htb]at hres;have t1:decide ((d:Int)<(hl:Int))=tb:=(by rw[htb];simp);have t2:decide (d<hl)=tb:=htb.symm
   obtain⟨HM,HB,HX,HTA,HD,HRES,HTB⟩:=Zq7 hm hb hx hta hd hres htb;clear hm hb hx hta hd hres htb
   rcases Bool.eq_false_or_eq_true ch with rfl | rfl
   ·go_wp2_with fail;go_ret
    exact⟨by rw[HRES.out];rfl,HB.out⟩
   ·go_wp2_with fail;go_ret
    exact⟨by rw[HRES.out];rfl,HB.out⟩
open Go.RowKit
theorem free_err (p:GProg)(nA:OA)(nl nc:Nat)(sA:OA)(sl sc:Nat)(rA:OA)(rl rc:Nat)(mA:OA)(ml mc:Nat)(w:World)(hp:ProgIn w p nA nl nc sA sl sc rA rl rc mA ml mc)(hv:validE p≠0):
  Calls Tryz.prog 27 #[.agg #[.int .i64 p.n,.slice nA nl nc,.slice sA sl sc,.slice rA rl rc,.slice mA ml mc]] w fun e w'=>e=.returned (.tuple #[.bool false,.int .i64 (validE p)])∧Below w.heap.size w w':=by
 have cV:=fun W (hb:Below w.heap.size w W)=>valid_any p nA nl nc sA sl sc rA rl rc mA ml mc W (hp.ext hb)
 obtain⟨ev,hev⟩:∃ev,ev=validE p:=⟨_,rfl⟩
 rw[← hev]at hv cV ⊢
 obtain⟨HP,CV,HEV⟩:=Zq3 hp cV hev;clear hp cV hev
 go_enter Tryz.func27,Tryz.ntmps27;go_wp2_with fail;go_fit (CV.out _ (bel_alloc _ _));rintro e w1 ⟨rfl,hb⟩;have HB:=Zq1 (bel_trans (bel_alloc _ _) hb);clear hb;go_wp2_with fail;go_ret2
 exact⟨rfl,HB.out⟩
theorem numFill_all' (i:Int)(hi:0≤i)(m:Int)(him:i≤m):∀(c out:LI),(∀y∈out,0≤y∧y≤m)→∀y∈numFill i out c,0≤y∧y≤m
 |[],out,h=>h
 |a::c,out,h=>by
  show ∀y∈numFill i (updZ out a i) c,0≤y∧y≤m;refine numFill_all' i hi m him c _ fun y hy=>?_;unfold updZ at hy;rcases List.mem_or_eq_of_mem_set hy with q | q
  ·exact h y q
  ·subst q;exact⟨hi,him⟩
theorem numGo_all':∀(cs:List (LI))(out:LI)(i m:Int),0≤i→i+cs.length≤m→(∀y∈out,0≤y∧y≤m)→∀y∈numGo out i cs,0≤y∧y≤m
 |[],out,i,m,_,_,h=>h
 |c::r,out,i,m,hi,hm,h=>by
  rw[List.length_cons]at hm;rw[numGo];exact numGo_all' r _ (i+1) m (by omega) (by omega) (numFill_all' i hi m (by omega) c out h)
theorem num_all' (n:Nat)(cs:List (LI)):∀y∈numL n cs,0≤y∧y≤(cs.length:Int):=
 numGo_all' cs _ 0 _ (by omega) (by omega) (fun y hy=>by have:=List.eq_of_mem_replicate hy;subst this;omega)
theorem comp_len' {g cs:List (LI)}(h:CompOk g cs):cs.length≤g.length:=by
 have hn:(cs.map fun c=>c.headD 0).Nodup:=by
  refine List.nodup_iff_pairwise_ne.2 ?_;rw[List.pairwise_map];refine h.dis.imp_of_mem fun {c d} hc hd hcd e=>?_;have h1:=head_mem (h.inc c hc).1;have h2:=head_mem (h.inc d hd).1;rw[e]at h1;exact hcd _ h1 h2
 have:=nodup_le g.length _ hn (fun k hk=>by
  obtain⟨c,hc,rfl⟩:=List.mem_map.1 hk
  have:=h.rng c hc _ (head_mem (h.inc c hc).1)
  omega)
 simpa using this
theorem numL_len' (n:Nat)(cs:List (LI)):(numL n cs).length=n+1:=by unfold numL;rw[numGo_len];simp
theorem free_any (p:GProg)(nA:OA)(nl nc:Nat)(sA:OA)(sl sc:Nat)(rA:OA)(rl rc:Nat)(mA:OA)(ml mc:Nat)(w:World)(hp:ProgIn w p nA nl nc sA sl sc rA rl rc mA ml mc)(hv:validE p=0):
  Calls Tryz.prog 27 #[.agg #[.int .i64 p.n,.slice nA nl nc,.slice sA sl sc,.slice rA rl rc,.slice mA ml mc]] w fun e w'=>e=.returned (.tuple #[.bool (freeB p),.int .i64 0])∧Below w.heap.size w w':=by
 have cV:=fun W (hb:Below w.heap.size w W)=>valid_any p nA nl nc sA sl sc rA rl rc mA ml mc W (hp.ext hb);rw[hv]at cV;have hi:=validE_is hv;have h0:0≤p.n:=(namedB_n hi.named).1;have hn4:=(namedB_n hi.named).2;have hg:=of_ok hi h0 hn4;have hx0:Blk (w.alloc (.cells #[.int .i64 p.n,.slice nA nl nc,.slice sA sl sc,.slice rA rl rc,.slice mA ml mc] 27)) w.heap.size 27 #[.int .i64 p.n,.slice nA nl nc,.slice sA sl sc,.slice rA rl rc,.slice mA ml mc]:=blk_new rfl _ _
 obtain⟨N,hN⟩:∃N:Nat,N=p.n.toNat:=⟨_,rfl⟩
 have hNn:p.n=(N:Int):=(by omega);have hlen:=of_len p;rw[← hN]at hlen;have hN4:N≤4000:=(by omega)
 obtain⟨HP,CV,HI,HG,HX0,HN,HNN,HLEN⟩:=Zq8 hp cV hi hg hx0 hN hNn hlen;clear hp cV hi hg hx0 hN hNn hlen
 have hfb:freeB p = !(p.rules.any (hfB (numL N (compT (ofL p))))):=by rw[HN.out];rfl
 have hnn:N=N:=rfl;have HFB:=Zq1 hfb;clear hfb;go_enter Tryz.func27,Tryz.ntmps27;go_wp2_with fail;go_fit (CV.out _ (bel_alloc _ _));rintro e w1 ⟨rfl,hb⟩;have HB:=Zq1 (bel_trans (bel_alloc _ _) hb);have hx1:=HX0.out.bel hb;clear hb;have cO:=fun W (hb:Below w1.heap.size w1 W)=>of_any p nA nl nc sA sl sc rA rl rc mA ml mc W (HP.out.ext (bel_trans HB.out hb)) HI.out h0;rw[← HN.out]at cO;clear hnn
 obtain⟨HX1,CO⟩:=Zq2 hx1 cO;clear hx1 cO
 go_upto_region 4 with fail;refine wp_region_inv (fun listed a' w'=>∃(b0 b1 b2 b3 b4 b5 b6 b7:Bool) (u5 u11 u12 u13 u14 u15 u16:Value),listed=#[b0,b1,b2,b3,b4,b5,b6,b7]∧a'={ tmps:=#[.agg #[.int .i64 p.n,.slice nA nl nc,.slice sA sl sc,.slice rA rl rc,.slice mA ml mc],.pointer (some ⟨w.heap.size,0,none⟩),.bool false,.int .i64 0,.int .i64 0,u5,.agg #[.int .i64 p.n,.slice nA nl nc,.slice sA sl sc,.slice rA rl rc,.slice mA ml mc],.int .i64 0,.int .i64 0,.bool false,undef,u11,u12,u13,u14,u15,u16,undef,undef,undef,undef,undef],defers:=[] }∧(Below w1.heap.size w1 w')∧(b0=true→u11=.pointer (some ⟨w.heap.size,0,none⟩))∧(b1=true→u12=.int .i64 p.n)∧(b2=true→u13=.agg #[.int .i64 p.n,.slice nA nl nc,.slice sA sl sc,.slice rA rl rc,.slice mA ml mc])∧(b3=true→b4=false→∃ub,u14=.slice (some ⟨ub,0,none⟩) (N+1) (N+1)∧SlIs (slR intR) w' (some ⟨ub,0,none⟩) (N+1) (N+1) (ofL p))∧(b4=true→b5=false→∃A l c,u15=.slice A l c∧SlIs (slR intR) w' A l c (compT (ofL p)))∧(b5=true→∃q,u16=.slice (some ⟨q,0,none⟩) (N+1) (N+1)∧w1.heap.size≤q∧Blk w' q 3 (intC (numL N (compT (ofL p)))))∧(b6=true→BoxAt w1 w' u5 (bif b7 then u16 else .slice none 0 0))∧(b5=true→b4=true)∧(b7=true→b6=true∧b5=true)) (by kernel_rfl) ?start ?step ?_
 case start=>exact⟨false,false,false,false,false,false,false,false,_,_,_,_,_,_,_,rfl,rfl,(Below.refl _ _).drew,(by simp),(by simp),(by simp),(by simp),(by simp),(by simp),(by simp),(by simp),(by simp)⟩
 case step=>
  rintro listed a' w' i o ⟨b0,b1,b2,b3,b4,b5,b6,b7,u5,u11,u12,u13,u14,u15,u16,rfl,rfl,hB,f0,f1,f2,f3,f4,f5,f6,c5,c7⟩ ho hli hd K hK;have Zqx:=fun i h=>hd ⟨i,.data⟩ h rfl
  match i,ho,hli,hd with
  |0,ho,hli,hd=>obtain⟨rfl,rfl⟩:_∧b0=false:=Zqj ho hli;have HH:=Zq1 (And.intro c5 c7);clear c5 c7;go_simp;exact hK _ _ ⟨_,_,_,_,_,_,_,_,_,_,_,_,_,_,_,rfl,rfl,hB,(fun _=>rfl),f1,f2,f3,f4,f5,f6,HH.out.1,HH.out.2⟩
  |1,ho,hli,hd=>
   obtain⟨rfl,rfl⟩:_∧b1=false:=Zqj ho hli;obtain rfl:b0=true:=Zqx 0 (by simp);obtain rfl:=f0 rfl
   obtain⟨p0,p1,p2,p3,p4,p5⟩:=pcells (HX1.out.bel hB)
   have HH:=Zq1 (And.intro c5 c7);clear c5 c7;go_simp;exact hK _ _ ⟨_,_,_,_,_,_,_,_,_,_,_,_,_,_,_,rfl,rfl,hB,f0,(fun _=>rfl),f2,f3,f4,f5,f6,HH.out.1,HH.out.2⟩
  |2,ho,hli,hd=>
   obtain⟨rfl,rfl⟩:_∧b2=false:=Zqj ho hli
   obtain⟨p0,p1,p2,p3,p4,p5⟩:=pcells (HX1.out.bel hB)
   have HH:=Zq1 (And.intro c5 c7);clear c5 c7;go_simp;exact hK _ _ ⟨_,_,_,_,_,_,_,_,_,_,_,_,_,_,_,rfl,rfl,hB,f0,f1,(fun _=>rfl),f3,f4,f5,f6,HH.out.1,HH.out.2⟩
  |3,ho,hli,hd=>obtain⟨rfl,rfl⟩:_∧b3=false:=Zqj ho hli;obtain rfl:b2=true:=Zqx 2 (by simp);obtain rfl:=f2 rfl;have cC:=CO.out w' hB;have HH:=Zq1 (And.intro c5 c7);clear c5 c7;go_simp;refine cC.mono ?_;rintro e v ⟨ub,rfl,hs,-,hb⟩;exact hK _ _ ⟨_,_,_,_,_,_,_,_,_,_,_,_,_,_,_,rfl,rfl,(bel_trans hB hb),f0,f1,f2,(fun _ _=>⟨ub,rfl,hs⟩),(fun e e9=>by obtain⟨A,l,c,e1,e2⟩:=f4 e e9;exact⟨A,l,c,e1,e2.ext hb⟩),(fun e=>by obtain⟨q,e1,e2,e3⟩:=f5 e;exact⟨q,e1,e2,e3.bel hb⟩),(fun e=>(f6 e).bel hb),HH.out.1,HH.out.2⟩
  |4,ho,hli,hd=>
   obtain⟨rfl,rfl⟩:_∧b4=false:=Zqj ho hli;obtain rfl:b3=true:=Zqx 3 (by simp)
   obtain⟨ub,rfl,hs⟩:=f3 rfl rfl
   have cC:=components_any (some ⟨ub,0,none⟩) (N+1) (N+1) (ofL p) w' HG.out (by omega) hs;have HH:=Zq1 (And.intro c5 c7);clear c5 c7;go_simp;refine cC.mono ?_;rintro e v ⟨A,l,c,rfl,hc,hb⟩;exact hK _ _ ⟨_,_,_,_,_,_,_,_,_,_,_,_,_,_,_,rfl,rfl,(bel_trans hB hb),f0,f1,f2,(fun _ e=>by cases e),(fun _ _=>⟨A,l,c,rfl,hc⟩),(fun e=>by obtain⟨q,e1,e2,e3⟩:=f5 e;exact⟨q,e1,e2,e3.bel hb⟩),(fun e=>(f6 e).bel hb),(fun _=>rfl),HH.out.2⟩
  |5,ho,hli,hd=>
   obtain⟨rfl,rfl⟩:_∧b5=false:=Zqj ho hli;obtain rfl:b1=true:=Zqx 1 (by simp);obtain rfl:b4=true:=Zqx 4 (by simp);obtain rfl:=f1 rfl
   obtain⟨A,l,c,rfl,hc⟩:=f4 rfl rfl
   have e7:b7=false:=by
    cases hh:b7 with
    |false=>rfl
    |true=>have:=(c7 hh).2;cases this
   subst e7;have cC:=numbers_any N A l c (compT (ofL p)) w' hN4 hc (fun c h a ha=>by have:=(comp_ok HG.out (by rw[HLEN.out];omega)).rng c h a ha;have:=HLEN.out;omega);rw[← HNN.out]at cC;have hS:w1.heap.size≤w'.heap.size:=hB.size;have HH:=Zq1 (And.intro c5 c7);clear c5 c7;go_simp;refine cC.mono ?_;rintro e v ⟨q,rfl,hq,hqs,hb⟩;exact hK _ _ ⟨_,_,_,_,_,_,_,_,_,_,_,_,_,_,_,rfl,rfl,(bel_trans hB hb),f0,f1,f2,(fun _ e=>by cases e),(fun _ e=>by cases e),(fun _=>⟨q,rfl,Nat.le_trans hS hqs,hq⟩),(fun e=>(f6 e).bel hb),(fun _=>rfl),(fun e=>by cases e)⟩
  |6,ho,hli,hd=>
   obtain⟨rfl,rfl⟩:_∧b6=false:=Zqj ho hli
   have e7:b7=false:=by
    cases hh:b7 with
    |false=>rfl
    |true=>have:=(c7 hh).1;cases this
   subst e7;have hb:=bel_alloc w' (.cells #[.slice none 0 0] 23);have hS:w1.heap.size≤w'.heap.size:=hB.size;have HH:=Zq1 (And.intro c5 c7);clear c5 c7;go_simp;exact hK _ _ ⟨_,_,_,_,_,_,_,_,_,_,_,_,_,_,_,rfl,rfl,(bel_trans hB hb),f0,f1,f2,(fun e e9=>by obtain⟨ub,e1,e2⟩:=f3 e e9;exact⟨ub,e1,e2.ext hb⟩),(fun e e9=>by obtain⟨A,l,c,e1,e2⟩:=f4 e e9;exact⟨A,l,c,e1,e2.ext hb⟩),(fun e=>by obtain⟨q,e1,e2,e3⟩:=f5 e;exact⟨q,e1,e2,e3.bel hb⟩),(fun _=>BoxAt.new hS),HH.out.1,(fun e=>by cases e)⟩
  |7,ho,hli,hd=>
   obtain⟨rfl,rfl⟩:_∧b7=false:=Zqj ho hli;obtain rfl:b5=true:=Zqx 5 (by simp);obtain rfl:b6=true:=Zqx 6 (by simp);obtain rfl:b4=true:=c5 rfl
   obtain⟨q,rfl,hq1,hq2⟩:=f5 rfl
   obtain⟨a5,rfl,ha1,ha2⟩:=f6 rfl
   have hm:w'.cell? ⟨a5,0,none⟩=some (.slice none 0 0):=ha2.cell 0;have hz:=ha2.frozen 0;have ha3:=ha2.set_ 0 (.slice (some ⟨q,0,none⟩) (N+1) (N+1));have hkk:Kept [a5] w' (w'.setCell ⟨a5,0,none⟩ (.slice (some ⟨q,0,none⟩) (N+1) (N+1))):=(Kept.refl _ _).set (.inl (by simp)) _
   have hBs:=Kept.below hB hkk hB.size (fun k hk=>by
    have e:k=a5:=(by simpa using hk);omega)
   have hqa:q≠a5:=fun e=>by
    subst e
    have:=hq2.symm.trans ha2
    simp at this
   have hq3:=hq2.far (p:=⟨a5,0,none⟩) hqa (.slice (some ⟨q,0,none⟩) (N+1) (N+1));clear f3 f4;have HH:=Zq1 (And.intro c5 c7);clear c5 c7;go_simp;exact hK _ _ ⟨_,_,_,_,_,_,_,_,_,_,_,_,_,_,_,rfl,rfl,hBs,f0,f1,f2,(fun _ e=>by cases e),(fun _ e=>by cases e),(fun _=>⟨q,rfl,hq1,hq3⟩),(fun _=>⟨a5,rfl,ha1,ha3⟩),(fun _=>rfl),(fun _=>⟨rfl,rfl⟩)⟩
  |i+8,ho,hli,hd=>simp at ho
 rintro listed a' w' ⟨b0,b1,b2,b3,b4,b5,b6,b7,u5,u11,u12,u13,u14,u15,u16,rfl,rfl,hB,f0,f1,f2,f3,f4,f5,f6,c5,c7⟩ hr;obtain rfl:b0=true:=Zqn hr 0 rfl;obtain rfl:b1=true:=Zqn hr 1 rfl;obtain rfl:b2=true:=Zqn hr 2 rfl;obtain rfl:b3=true:=Zqn hr 3 rfl;obtain rfl:b4=true:=Zqn hr 4 rfl;obtain rfl:b5=true:=Zqn hr 5 rfl;obtain rfl:b6=true:=Zqn hr 6 rfl;obtain rfl:b7=true:=Zqn hr 7 rfl;clear hr
 obtain⟨q,rfl,hq1,hq2⟩:=f5 rfl
 obtain⟨a5,rfl,ha1,ha2⟩:=f6 rfl
 have ha2:Blk w' a5 23 #[.slice (some ⟨q,0,none⟩) (N+1) (N+1)]:=ha2;clear f0 f1 f2 f3 f4 c5 c7;have hbz:=bel_trans HB.out hB;have hx3:=HX1.out.bel hB;have hpt:=comp_ok HG.out (by rw[HLEN.out];omega)
 have hall:∀x∈numL N (compT (ofL p)),I64 x:=fun x hx=>by
  have h1:=num_all' N (compT (ofL p)) x hx;have h2:=comp_len' hpt
  have:=HLEN.out
  unfold I64;omega
 have hin:=HP.out.rules.ext hbz
 have hct:=containsFuncR_any rA rl rc p.rules 66 #[.pointer (some ⟨a5,0,none⟩)] (hfB (numL N (compT (ofL p)))) w' hin (fun args W=>by kernel_rfl) (fun W x hA hl hc bA bl bc wA wl wc hb hx hri=>by
  have hri2:=HI.out.rules x hx;have h2:=inc_lenN hri2.n0 hri2.head
  exact hcf1_any a5 q (N+1) (numL N (compT (ofL p))) x hA hl hc bA bl bc wA wl wc W hri (ha2.bel hb) (hq2.bel hb) (numL_len' _ _) (by omega) (fun a ha=>by
   have h3:=inc_mem hri2.head a ha
   have:=HNN.out
   omega) hall (by omega))
 obtain⟨p0,p1,p2,p3,p4,p5⟩:=pcells hx3
 obtain⟨fr,hfr⟩:∃fr,fr=p.rules.any (hfB (numL N (compT (ofL p)))):=⟨_,rfl⟩
 rw[← hfr]at hct
 obtain⟨HB,HQ2,HA2,HBZ,HX3,HPT,HALL,HIN,HCT,HFR⟩:=Zq10 hB hq2 ha2 hbz hx3 hpt hall hin hct hfr;clear hB hq2 ha2 hbz hx3 hpt hall hin hct hfr
 go_wp2_with fail;go_fit HCT.out;rintro e w7 ⟨rfl,hb7⟩;have hb8:=bel_trans HBZ.out hb7
 obtain⟨HB7,HB8⟩:=Zq2 hb7 hb8;clear hb7 hb8
 go_wp2_with fail;go_ret2
 exact⟨by rw[HFB.out,← HFR.out];rfl,HB8.out⟩
open Go.RowKit

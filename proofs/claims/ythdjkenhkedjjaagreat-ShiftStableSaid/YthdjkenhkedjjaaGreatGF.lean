/- GF -/
import Derived.Test.YthdjkenhkedjjaaGreatG5
import Derived.OwnWalkIn
import Derived.TacticsInMore
import Derived.LoopNIn
import Derived.LoopIn
import Derived.Shelf.Abstract
import Derived.Laws.BitsAllLaws
set_option maxRecDepth 100000
set_option maxHeartbeats 4000000
namespace Go.Proofs.YthdjkenhkedjjaaGreat
open Go.RowKit
theorem dis1_any (x:GRule)(hA:OA)(hl hc:Nat)(bA:OA)(bl bc:Nat)(wA:OA)(wl wc:Nat)(w:World)(hx:RuleIn w x hA hl hc bA bl bc wA wl wc):
  Calls Tryz.prog 123 #[.agg #[.bool x.choice,.slice hA hl hc,.bool x.sum,.int .i64 x.bound,.slice bA bl bc,.slice wA wl wc]] w fun e w'=>e=.returned (.bool (!x.choice && decide (1<x.head.length)))∧Below w.heap.size w w':=by
 have hhl:=hx.head.len;have hhc:=hx.head.cap;have hhm:=hx.head.max;rw[← hhl];clear hhl
 cases hc:x.choice with
 |true=>
  obtain⟨HX,HC⟩:=Zq2 hx hc;clear hx hc
  go_enter Tryz.func123,Tryz.ntmps123;go_wp2_with fail;go_ret
  exact⟨rfl,bel_alloc _ _⟩
 |false=>
  by_cases h1:1<hl
  ·have e1:decide ((1:Int)<(hl:Int))=true:=decide_eq_true (by omega);have e2:decide (1<hl)=true:=decide_eq_true h1
   obtain⟨HX,HC⟩:=Zq2 hx hc;clear hx hc
   go_enter Tryz.func123,Tryz.ntmps123;go_wp2_with fail;go_ret
   exact⟨ret_bool (by rw[e2];rfl),bel_alloc _ _⟩
  ·have e1:decide ((1:Int)<(hl:Int))=false:=decide_eq_false (by omega);have e2:decide (1<hl)=false:=decide_eq_false h1
   obtain⟨HX,HC⟩:=Zq2 hx hc;clear hx hc
   go_enter Tryz.func123,Tryz.ntmps123;go_wp2_with fail;go_ret
   exact⟨ret_bool (by rw[e2];rfl),bel_alloc _ _⟩
def disR (r:GRule):Bool:=!r.choice && decide (1<r.head.length)
theorem disjunctive_any (p:GProg)(nA:OA)(nl nc:Nat)(sA:OA)(sl sc:Nat)(rA:OA)(rl rc:Nat)(mA:OA)(ml mc:Nat)(w:World)(hp:ProgIn w p nA nl nc sA sl sc rA rl rc mA ml mc):
  Calls Tryz.prog 78 #[.agg #[.int .i64 p.n,.slice nA nl nc,.slice sA sl sc,.slice rA rl rc,.slice mA ml mc]] w fun e w'=>e=.returned (.bool (p.rules.any disR))∧Below w.heap.size w w':=by
 have cF:=fun W (hb:Below w.heap.size w W)=>containsFuncR_any rA rl rc p.rules 123 #[] disR W (hp.rules.ext hb) (fun args W=>by kernel_rfl)
  (fun W' x hA hl hc bA bl bc wA wl wc _ _ hx=>dis1_any x hA hl hc bA bl bc wA wl wc W' hx)
 obtain⟨HP,CF⟩:=Zq2 hp cF;clear hp cF
 go_enter Tryz.func78,Tryz.ntmps78;go_wp2_with fail;go_fit (CF.out _ (bel_alloc _ _));rintro e w1 ⟨rfl,hb1⟩;have HB1:=Zq1 (bel_trans (bel_alloc _ _) hb1);clear hb1;go_wp2_with fail;go_ret
 exact⟨rfl,HB1.out⟩
theorem sat11_any (x:Int)(a:Nat)(mA:OA)(ml mc:Nat)(ms:LI)(w:World)(hc:w.cell? ⟨a,0,none⟩=some (.slice mA ml mc))(hm:SlIs intR w mA ml mc ms):
  Calls Tryz.prog 178 #[.int .i64 x,.pointer (some ⟨a,0,none⟩)] w fun e w'=>e=.returned (.bool (decide (x∈ms)))∧Below w.heap.size w w':=by
 have cC:=containsI_any mA ml mc ms x w hm
 obtain⟨HM,CC⟩:=Zq2 hm cC;clear hm cC
 go_enter Tryz.func178,Tryz.ntmps178;go_wp2_with fail;go_fit CC.out;rintro e w' ⟨rfl,rfl⟩;go_wp2_with fail;go_ret
 exact⟨rfl,Below.refl _ _⟩
def satC (r:GRule)(m:LI):Bool:=r.choice || (!bodyC r m || r.head.any (fun a=>decide (a∈m)))
theorem sat1_any (x:GRule)(hA:OA)(hl hc:Nat)(bA:OA)(bl bc:Nat)(wA:OA)(wl wc:Nat)(a:Nat)(mA:OA)(ml mc:Nat)(ms:LI)(w:World)(hx:RuleIn w x hA hl hc bA bl bc wA wl wc)(hcell:w.cell? ⟨a,0,none⟩=some (.slice mA ml mc))(hm:SlIs intR w mA ml mc ms):
  Calls Tryz.prog 177 #[.agg #[.bool x.choice,.slice hA hl hc,.bool x.sum,.int .i64 x.bound,.slice bA bl bc,.slice wA wl wc],.pointer (some ⟨a,0,none⟩)] w fun e w'=>e=.returned (.bool (!satC x ms))∧Below w.heap.size w w':=by
 have hsat:satC x ms=(x.choice || (!bodyC x ms || x.head.any (fun a=>decide (a∈ms)))):=rfl;have hal:=World.block_lt_of_cell? w _ hcell;simp only at hal;have cB:=fun W (hb:Below w.heap.size w W)=>bodyOut_any x hA hl hc bA bl bc wA wl wc mA ml mc ms W (hx.ext hb) (hm.ext hb)
 have cH:=fun W (hb:Below w.heap.size w W)=>containsFuncI_any hA hl hc x.head 178 #[.pointer (some ⟨a,0,none⟩)] (fun y=>decide (y∈ms)) W (hx.head.ext hb) (fun args W=>by kernel_rfl)
   (fun W' y hb' _ _=>sat11_any y a mA ml mc ms W' (((bel_trans hb hb').cell (p:=⟨a,0,none⟩) hal).trans hcell) (hm.ext (bel_trans hb hb')))
 generalize bodyC x ms=q at *;generalize x.head.any (fun y=>decide (y∈ms))=q2 at *
 cases hch:x.choice with
 |true=>
  rw[hch]at hsat;clear cB cH
  obtain⟨HX,HM,HSAT,HCH⟩:=Zq4 hx hm hsat hch;clear hx hm hsat hch
  go_enter Tryz.func177,Tryz.ntmps177;go_wp2_with fail;go_ret
  exact⟨ret_bool (by rw[HSAT.out];rfl),bel_alloc _ _⟩
 |false=>
  rw[hch]at hsat cB
  cases q with
  |false=>
   obtain⟨HX,HM,HSAT,HCH,CB,CH⟩:=Zq6 hx hm hsat hch cB cH;clear hx hm hsat hch cB cH
   go_enter Tryz.func177,Tryz.ntmps177;go_wp2_with fail;go_fit (CB.out _ (bel_alloc _ _));rintro e w1 ⟨rfl,hb1⟩;have HB1:=Zq1 (bel_trans (bel_alloc _ _) hb1);clear hb1;go_wp2_with fail;go_ret
   exact⟨ret_bool (by rw[HSAT.out];rfl),HB1.out⟩
  |true=>
   obtain⟨HX,HM,HSAT,HCH,CB,CH⟩:=Zq6 hx hm hsat hch cB cH;clear hx hm hsat hch cB cH
   go_enter Tryz.func177,Tryz.ntmps177;go_wp2_with fail;go_fit (CB.out _ (bel_alloc _ _));rintro e w1 ⟨rfl,hb1⟩;have hb1':=(Blk.new w 42 #[.bool false,.slice hA hl hc,.bool x.sum,.int .i64 x.bound,.slice bA bl bc,.slice wA wl wc]).bel hb1;have s1:=hb1'.cell 1;have s2:=hb1'.lt;have HB1:=Zq1 (bel_trans (bel_alloc _ _) hb1);clear hb1;have HB1':=Zq1 hb1';clear hb1';go_wp2_with fail;go_fit (CH.out _ HB1.out);rintro e w2 ⟨rfl,hb2⟩;have HB2:=Zq1 (bel_trans HB1.out hb2);clear hb2;go_wp2_with fail;go_ret
   exact⟨ret_bool (by rw[HSAT.out];simp),HB2.out⟩
theorem satisfies_any (rA:OA)(rl rc:Nat)(rs:LG)(mA:OA)(ml mc:Nat)(ms:LI)(w:World)(h:SlIs ruleR w rA rl rc rs)(hm:SlIs intR w mA ml mc ms):
  Calls Tryz.prog 141 #[.slice rA rl rc,.slice mA ml mc] w fun e w'=>e=.returned (.bool (rs.all (fun r=>satC r ms)))∧Below w.heap.size w w':=by
 have cF:=fun W (hb:Below (w.alloc (.cells #[.slice mA ml mc] 23)).heap.size (w.alloc (.cells #[.slice mA ml mc] 23)) W)=>containsFuncR_any rA rl rc rs 177 #[.pointer (some ⟨w.heap.size,0,none⟩)] (fun r=>!satC r ms) W (h.ext (bel_trans (bel_alloc _ _) hb)) (fun args W=>by kernel_rfl)
  (fun W' x hA hl hc bA bl bc wA wl wc hb' _ hx=>sat1_any x hA hl hc bA bl bc wA wl wc w.heap.size mA ml mc ms W' hx (((Blk.new w 23 #[.slice mA ml mc]).bel (bel_trans hb hb')).cell 0) (hm.ext (bel_trans (bel_alloc _ _) (bel_trans hb hb'))))
 have he:(!rs.any fun r=>!satC r ms)=rs.all (fun r=>satC r ms):=by rw[List.not_any_eq_all_not];simp
 rw[← he]
 obtain⟨H,HM,CF,HE⟩:=Zq4 h hm cF he;clear h hm cF he
 go_enter Tryz.func141,Tryz.ntmps141;go_wp2_with fail;go_fit (CF.out _ (Below.refl _ _));rintro e w1 ⟨rfl,hb1⟩;have HB1:=Zq1 (bel_trans (bel_alloc _ _) hb1);clear hb1;go_wp2_with fail;go_ret
 exact⟨rfl,HB1.out⟩
open Go.RowKit Go.Shelf
attribute [local go_sem] Oper.semAt_some
theorem pick_take:∀{m:LI}{i:Nat}{x:Int}(k:Nat),m[i]? = some x→pickL (m.take (i+1)) k=if (k / 2 ^ i) % 2=1 then pickL (m.take i) k++[x]else pickL (m.take i) k
 |[],i,x,k,h=>by simp at h
 |a::t,0,x,k,h=>by
  simp at h;subst h;simp[pickL]
 |a::t,i+1,x,k,h=>by
  have ih:=pick_take (m:=t) (i:=i) (x:=x) (k / 2) (by simpa using h);rw[List.take_succ_cons,List.take_succ_cons];have e:k / 2 ^ (i+1)=k / 2 / 2 ^ i:=by rw[Nat.div_div_eq_div_mul,Nat.pow_succ,Nat.mul_comm]
  rw[e];unfold pickL;rw[ih]
  by_cases h1:k % 2=1 <;> by_cases h2:k / 2 / 2 ^ i % 2=1 <;> simp[h1,h2]
theorem i64_and_nat (a b:Nat)(ha:a<9223372036854775808)(hb:b<9223372036854775808):Go.bits BinOp.and IntKind.i64 (a:Int) (b:Int)=((a &&& b:Nat):Int):=by
 have hx:a &&& b<2 ^ 63:=Nat.and_lt_two_pow _ (by omega);show IntKind.i64.wrap ((BitVec.ofInt 64 (a:Int) &&& BitVec.ofInt 64 (b:Int)).toNat:Int)=_;rw[BitVec.toNat_and,ofInt_u64 a (by omega),ofInt_u64 b (by omega)];exact IntWalk.i64_in _ (by omega)
theorem bit_at (k i:Nat)(hk:k<9223372036854775808):(Go.bits BinOp.and IntKind.i64 ((k:Int) / 2 ^ i) 1==1)=decide (k / 2 ^ i % 2=1):=by
 have e:((k:Int) / 2 ^ i)=((k / 2 ^ i:Nat):Int):=by push_cast;rfl
 have hd:k / 2 ^ i≤k:=Nat.div_le_self _ _;rw[e,show (1:Int)=((1:Nat):Int) from rfl,i64_and_nat _ 1 (by omega) (by decide),Nat.and_one_is_mod];rcases Nat.mod_two_eq_zero_or_one (k / 2 ^ i)with h | h <;> simp[h]
def GoodS (M:LN)(x:LI)(args:Array Value)(W:World):Prop:=∃(A:OA) (l c:Nat),args=#[.slice A l c]∧SlIs intR W A l c x∧Off M A l
theorem GoodS.go {M M1:LN}{x:LI}{args:Array Value}{A B:World}(h:GoodS M x args A)(hs:∀k∈M1,k∈M)(hk:Kept M A B):GoodS M1 x args B:=by
 obtain⟨a,l,c,e,h1,h2⟩:=h
 exact⟨a,l,c,e,h1.keptM hk h2,h2.sub hs⟩
theorem GoodS.size {M:LN}{x:LI}{args:Array Value}{W:World}(h:GoodS M x args W):args.size=1:=by
 obtain⟨_,_,_,rfl,_⟩:=h;rfl
theorem subs_len (m:LI):(subsL m).length=2 ^ m.length:=by simp[subsL]
theorem subs_at {m:LI}{k:Nat}(h:k<2 ^ m.length):(subsL m)[k]? = some (pickL m k):=by
 unfold subsL;rw[List.getElem?_map,List.getElem?_range h];rfl
theorem sub1_iter (m:Nat)(_hm:1≤m)(a:Nat)(xA:OA)(xl xc:Nat)(ms:LI)(M0:LN)(w:World)
  (hres:∀M W,(∀k∈M,k∈M0∨w.heap.size≤k)→Kept M w W→W.cell? ⟨a,0,none⟩=some (.slice xA xl xc)∧SlIs intR W xA xl xc ms) (hx:xl≤12):
  IterM Fence.wide m Tryz.prog 124 #[.pointer (some ⟨a,0,none⟩)] GoodS (subsL ms) M0 w:=by
 intro l J Jx M W hJ hJx hJM hY h0 hbw hM;refine callsIn_of_wp Tryz.func124 rfl trivial ?_ rfl;simp only[Tryz.ntmps124,List.size_toArray,List.length_cons,List.length_nil,Nat.reduceAdd,Nat.reduceSub,Array.replicate_succ,Array.replicate_zero,List.push_toArray,List.append_toArray,List.nil_append,List.cons_append]
 obtain⟨c0,hs0⟩:=hres M W hM (Kept.of_below hbw _)
 have hlen:=hs0.len;have hxc:=hs0.cap;have hxm:=hs0.max;have HJ':=Zq1 hJ;clear hJ
 obtain⟨HY',HRES,HJX,HJM,H0,HM,HBW,HS0,HLEN⟩:=Zq9 hY hres hJx hJM h0 hM hbw hs0 hlen;clear hY hres hJx hJM h0 hM hbw hs0 hlen
 gi_wp2
 obtain⟨T,hT⟩:∃T:Nat,T=2 ^ xl:=⟨_,rfl⟩
 have hT2:T≤4096:=by rw[hT];exact Nat.pow_le_pow_right (by omega) hx
 have eT:wrap64 ((2:Int) ^ xl)=(T:Int):=by
  have h1:(2:Int) ^ xl=(T:Int):=by rw[hT];push_cast;rfl
  rw[h1];exact IntWalk.wrap64_in _ (by omega)
 rw[eT];have HT:=Zq1 hT;clear hT eT c0;gi_loopw [10] (fun t wr=>∃(k:Nat) (M Ms:LN),k≤T∧t=.int .i64 (k:Int)∧J M ((subsL ms).take k) wr∧Kept Ms w wr∧(∀q∈M,q∈Ms)∧(∀q∈Ms,q∈M0∨w.heap.size≤q)) (fun t _=>T-(intOf t).toNat)
 case atStart=>exact⟨0,M,M,Nat.zero_le _,rfl,H0.out,Kept.of_below HBW.out _,fun _ h=>h,HM.out⟩
 case round=>
  obtain⟨k,M1,Ms,hk,rfl,hj,hkw,hsub,hM1⟩:=hrel
  obtain⟨c0,hs1⟩:=HRES.out Ms wr hM1 hkw
  by_cases hlt:k<T
  ·have k0:(0:Int)≤(k:Int):=(by omega);have hms:=HJM.out _ _ _ hj;have HJ1:=Zq1 hj;clear hj;have hx1:=hs1.small
   obtain⟨HKW,HSUB,HM1,HS1,HMS⟩:=Zq5 hkw hsub hM1 hs1 hms;clear hkw hsub hM1 hs1 hms
   gi_wp2_with fail
   obtain⟨wo,rfl⟩:∃wo:World,wo=wr:=⟨_,rfl⟩
   gi_loopw [4,15] (fun v t wq=>∃(i lv:Nat),i≤xl∧t=.int .i64 (i:Int)∧OwnI wq wo.heap.size v lv (pickL (ms.take i) k)∧lv≤i∧Below wo.heap.size wo wq) (fun _ t _=>xl-(intOf t).toNat)
   case atStart=>exact⟨0,0,Nat.zero_le _,rfl,OwnI.nil _ _,Nat.le_refl _,Below.refl _ _⟩
   case round=>
    obtain⟨i,lv,hi,rfl,ho,hlv,hb⟩:=hrel
    have hsz:=hb.size
    by_cases hlt2:i<xl
    ·obtain⟨x,hx,-⟩:=HS1.out.drop hlt2
     obtain⟨xb,xo,rfl,lx,cx,_⟩:=(HS1.out.ext hb).int hx
     have hpt:=pick_take k hx;have i0:(0:Int)≤(i:Int):=(by omega);have i1:(i:Int)<(xl:Int):=(by omega);have hbt:=bit_at k i (by omega)
     by_cases hbit:k / 2 ^ i % 2=1
     ·rw[decide_eq_true hbit]at hbt;rw[if_pos hbit]at hpt
      obtain⟨v',w3,hrun,hown3,hg3,hat3⟩:=app1 ho x (by omega) hsz 23
      have hb3:=bel_grown hb hg3 hsz (fun z hz=>(ho.2.lt z hz).1)
      obtain⟨HPT,HX,HO,HB,HRUN,HOWN3,HG3,HAT3,HB3,HBIT⟩:=Zq10 hpt hx ho hb hrun hown3 hg3 hat3 hb3 hbit;clear hpt hx ho hb hrun hown3 hg3 hat3 hb3 hbit
      gi_wp2_with (refine wpListIn_append_run rfl _ _ _ rfl _ _ rfl rfl _ _ HRUN.out ?_);go_roundw;exact⟨i+1,lv+1,by omega,by go_num,by rw[HPT.out];exact HOWN3.out,by omega,HB3.out⟩;simp[intOf];omega
     ·rw[decide_eq_false hbit]at hbt;rw[if_neg hbit]at hpt
      obtain⟨HPT,HX,HO,HB,HBIT⟩:=Zq5 hpt hx ho hb hbit;clear hpt hx ho hb hbit
      gi_wp2_with fail;go_roundw;exact⟨i+1,lv,by omega,by go_num,by rw[HPT.out];exact HO.out,by omega,HB.out⟩;simp[intOf];omega
    ·have hil:i=xl:=(by omega);subst hil;rw[List.take_of_length_le (by rw[← HLEN.out];omega)]at ho
     obtain⟨vA,vc,rfl,hsv⟩:=ho.sl (by omega) (fun y hy=>HS1.out.all64 y ((pickL_sub ms k).subset hy))
     have hkl:k<2 ^ ms.length:=(by have:=HT.out;rw[HLEN.out]at this;omega);have hat:=subs_at hkl;have htk:(subsL ms).take k++[pickL ms k]=(subsL ms).take (k+1):=(take_snoc' hat).symm
     have hgd:GoodS M1 (pickL ms k) #[.slice vA lv vc] wr:=⟨vA,lv,vc,rfl,hsv,fun h0 ad e hm=>by
      have h1:=ho.fresh h0 ad e;have h2:=HMS.out _ hm;omega⟩
     obtain⟨fn,tmps,assign,body,hyy,hRd⟩:=HY'.out M1 _ _ _ _ (HJ'.out _ _ _ _ HJ1.out hb) (by rw[htk];exact List.take_prefix _ _) hgd
     have hkV:=HKW.out.bel hb
     obtain⟨HO,HB,HSV,HKL,HAT,HGD,HKV⟩:=Zq7 ho hb hsv hkl hat hgd hkV;clear ho hb hsv hkl hat hgd hkV
     gi_wp2_with fail;refine hRd.mono ?_;rintro e W4 (⟨rfl,M2,hj4,hk4,hm4⟩ | ⟨rfl,hjx⟩)
     ·rw[htk]at hj4;have hw4:Kept (Ms++M2) w W4:=(HKV.out.more (fun q hq=>by simp[hq])).trans (hk4.more (fun q hq=>by simp[HSUB.out q hq]))
      have hc4:∀q∈Ms++M2,q∈M0∨w.heap.size≤q:=fun q hq=>by
       rcases List.mem_append.1 hq with h | h
       ·exact HM1.out q h
       ·rcases hm4 q h with h | h
        ·exact HM1.out q (HSUB.out q h)
        ·exact .inr (Nat.le_trans HKV.out.size h)
      obtain⟨HJ4,HK4,HM4,HW4,HC4,HTK⟩:=Zq6 hj4 hk4 hm4 hw4 hc4 htk;clear hj4 hk4 hm4 hw4 hc4 htk
      gi_wp2_with fail;go_roundw;exact⟨k+1,M2,Ms++M2,by omega,by go_num,HJ4.out,HW4.out,fun q hq=>by simp[hq],HC4.out⟩;simp[intOf];omega
     ·obtain⟨HJX',HTK⟩:=Zq2 hjx htk;clear hjx htk
      gi_wp2_with fail;refine bodyPost_ret (results_none rfl _ _ _) rfl ?_
      exact⟨⟨_,rfl⟩,.inr ⟨_,by rw[HTK.out];exact List.take_prefix _ _,HJX'.out⟩⟩
  ·have hkT:k=T:=(by omega);have hall:(subsL ms).take k=subsL ms:=List.take_of_length_le (by rw[subs_len,← HLEN.out,← HT.out];omega);rw[hall]at hj
   obtain⟨HJ,HKW,HSUB,HM1,HS1,HALL⟩:=Zq6 hj hkw hsub hM1 hs1 hall;clear hj hkw hsub hM1 hs1 hall
   gi_wp2_with fail;go_end0
   exact⟨⟨_,rfl⟩,.inl ⟨M1,HJ.out⟩⟩
open Go.RowKit Go.Shelf
attribute [local go_sem] Oper.semAt_some
theorem subsets_any (mA:OA)(ml mc:Nat)(w:World):
  Calls Tryz.prog 79 #[.slice mA ml mc] w fun e w'=>e=.returned (.func (.func 124) #[] #[.pointer (some ⟨w.heap.size,0,none⟩)])∧w'=w.alloc (.cells #[.slice mA ml mc] 23):=by
 go_enter Tryz.func79,Tryz.ntmps79;go_wp2;go_ret
 exact⟨rfl,rfl⟩
theorem results_cell_one {P:Program}{fn:Func}{p:Tmp}{ty:TypeId}(h:fn.results=#[.cell p ty])(tmps:Array Value)(w:World)(g:Nat)(v:Value)
  (hp:tmps.getD p undef=.pointer (some ⟨g,0,none⟩)) (hl:(loadVar ty ⟨g,0,none⟩).run P w=.ok v w):(results fn tmps).run P w=.ok v w:=by
 have hp':tmps[p]?.getD undef=.pointer (some ⟨g,0,none⟩):=by simpa using hp
 simp[results,h,hp',asAddr,hl]
theorem load_bool {w:World}{g:Nat}{b:Bool}(h:Blk w g 4 #[.bool b]):(loadVar 4 ⟨g,0,none⟩).run Tryz.prog w=.ok (.bool b) w:=by
 have hc:w.cell? ⟨g,0,none⟩=some (.bool b):=h.cell 0;simp[loadVar,hc,go_sem]
def satCL (rs:LG)(s:LI):Bool:=rs.all fun r=>satC r s
def minC (rs:LG)(m:LI):Bool:=match (subsL m).find? (satCL rs)with
 |some s=>decide (s.length=m.length)
 |none=>false
def MinI (w:World)(rA:OA)(rl rc:Nat)(mA:OA)(ml mc:Nat)(rs:LG)(M:LN)(pre:List (LI))(W:World):Prop:=
 M=[w.heap.size+1+1]∧(∀s∈pre,satCL rs s=false)∧Blk W w.heap.size 24 #[.slice rA rl rc]∧Blk W (w.heap.size+1) 23 #[.slice mA ml mc]∧Blk W (w.heap.size+1+1) 4 #[.bool false]∧Below w.heap.size w W
def MinX (w:World)(rs:LG)(ml:Nat)(c:Code)(pre:List (LI))(W:World):Prop:=
 c=.ret∧(∃p s,pre=p++[s]∧(∀x∈p,satCL rs x=false)∧satCL rs s=true∧Blk W (w.heap.size+1+1) 4 #[.bool (decide (s.length=ml))])∧Below w.heap.size w W
theorem MinI.bel {w:World}{rA:OA}{rl rc:Nat}{mA:OA}{ml mc:Nat}{rs:LG}{M:LN}{pre:List (LI)}{A B:World}(h:MinI w rA rl rc mA ml mc rs M pre A)(hb:Below A.heap.size A B):MinI w rA rl rc mA ml mc rs M pre B:=
 ⟨h.1,h.2.1,h.2.2.1.bel hb,h.2.2.2.1.bel hb,h.2.2.2.2.1.bel hb,bel_trans h.2.2.2.2.2 hb⟩
theorem MinX.bel {w:World}{rs:LG}{ml:Nat}{c:Code}{pre:List (LI)}{A B:World}(h:MinX w rs ml c pre A)(hb:Below A.heap.size A B):MinX w rs ml c pre B:=by
 obtain⟨h1,⟨p,s,e,h2,h3,h4⟩,h5⟩:=h
 exact⟨h1,⟨p,s,e,h2,h3,h4.bel hb⟩,bel_trans h5 hb⟩
theorem blk_keep {A B:World}{k g:Nat}{t:TypeId}{cs:Array Value}(h:Blk A g t cs)(hn:∀o,A.heap[k]? = some o→o.isCells=false)(hk:Kept [k] A B):Blk B g t cs:=
 hk.blk h (by have:=blk_ne h hn;simp;omega)
theorem MinI.keep {w:World}{rA:OA}{rl rc:Nat}{mA:OA}{ml mc:Nat}{rs:LG}{M:LN}{pre:List (LI)}{A B:World}{k:Nat}(hw:w.heap.size≤k)(h:MinI w rA rl rc mA ml mc rs M pre A)(hn:∀o,A.heap[k]? = some o→o.isCells=false)(hk:Kept [k] A B):MinI w rA rl rc mA ml mc rs M pre B:=
 ⟨h.1,h.2.1,blk_keep h.2.2.1 hn hk,blk_keep h.2.2.2.1 hn hk,blk_keep h.2.2.2.2.1 hn hk,Kept.below h.2.2.2.2.2 hk h.2.2.2.2.2.size (fun q hq=>by simp at hq;omega)⟩
theorem MinX.keep {w:World}{rs:LG}{ml:Nat}{c:Code}{pre:List (LI)}{A B:World}{k:Nat}(hw:w.heap.size≤k)(h:MinX w rs ml c pre A)(hn:∀o,A.heap[k]? = some o→o.isCells=false)(hk:Kept [k] A B):MinX w rs ml c pre B:=by
 obtain⟨h1,⟨p,s,e,h2,h3,h4⟩,h5⟩:=h
 exact⟨h1,⟨p,s,e,h2,h3,blk_keep h4 hn hk⟩,Kept.below h5 hk h5.size (fun q hq=>by simp at hq;omega)⟩
theorem minimal_any (rA:OA)(rl rc:Nat)(rs:LG)(mA:OA)(ml mc:Nat)(ms:LI)(w:World)(h:SlIs ruleR w rA rl rc rs)(hm:SlIs intR w mA ml mc ms)(hl:ml≤12):
  Calls Tryz.prog 125 #[.slice rA rl rc,.slice mA ml mc] w fun e w'=>e=.returned (.bool (minC rs ms))∧Below w.heap.size w w':=by
 have hmc:=hm.cap;have hmm:=hm.max
 obtain⟨H,HM⟩:=Zq2 h hm;clear h hm
 refine(callsIn_wide (n:=5)).1 ?_
 refine callsIn_of_wp_marks Tryz.func125 rfl trivial ?_ rfl;simp only[Tryz.ntmps125,List.size_toArray,List.length_cons,List.length_nil,Nat.reduceAdd,Nat.reduceSub,Array.replicate_succ,Array.replicate_zero,List.push_toArray,List.append_toArray,List.nil_append,List.cons_append];gi_wp2_with fail
 refine⟨trivial,?_⟩
 refine(callsIn_wide.2 (subsets_any mA ml mc _)).mono ?_
 rintro e w1 ⟨rfl,rfl⟩;gi_wp2_with fail
 have hW:Blk ((((w.alloc (.cells #[.slice rA rl rc] 24)).alloc (.cells #[.slice mA ml mc] 23)).alloc (.cells #[.bool false] 4)).alloc (.cells #[.slice mA ml mc] 23)) w.heap.size 24 #[.slice rA rl rc]∧Blk ((((w.alloc (.cells #[.slice rA rl rc] 24)).alloc (.cells #[.slice mA ml mc] 23)).alloc (.cells #[.bool false] 4)).alloc (.cells #[.slice mA ml mc] 23)) (w.heap.size+1) 23 #[.slice mA ml mc]∧Blk ((((w.alloc (.cells #[.slice rA rl rc] 24)).alloc (.cells #[.slice mA ml mc] 23)).alloc (.cells #[.bool false] 4)).alloc (.cells #[.slice mA ml mc] 23)) (w.heap.size+1+1) 4 #[.bool false]∧Blk ((((w.alloc (.cells #[.slice rA rl rc] 24)).alloc (.cells #[.slice mA ml mc] 23)).alloc (.cells #[.bool false] 4)).alloc (.cells #[.slice mA ml mc] 23)) (w.heap.size+1+1+1) 23 #[.slice mA ml mc]∧Below w.heap.size w ((((w.alloc (.cells #[.slice rA rl rc] 24)).alloc (.cells #[.slice mA ml mc] 23)).alloc (.cells #[.bool false] 4)).alloc (.cells #[.slice mA ml mc] 23))∧((((w.alloc (.cells #[.slice rA rl rc] 24)).alloc (.cells #[.slice mA ml mc] 23)).alloc (.cells #[.bool false] 4)).alloc (.cells #[.slice mA ml mc] 23)).heap.size=w.heap.size+1+1+1+1:=
  ⟨(((blk_new rfl _ _).alloc _).alloc _).alloc _,((blk_new (by simp) _ _).alloc _).alloc _,(blk_new (by simp) _ _).alloc _,blk_new (by simp) _ _,bel_trans (bel_trans (bel_trans (bel_alloc _ _) (bel_alloc _ _)) (bel_alloc _ _)) (bel_alloc _ _),by simp⟩
 generalize ((((w.alloc (.cells #[.slice rA rl rc] 24)).alloc (.cells #[.slice mA ml mc] 23)).alloc (.cells #[.bool false] 4)).alloc (.cells #[.slice mA ml mc] 23))=W3 at *
 obtain⟨e1,e2,e3,e4,e5,e6⟩:=hW
 have hml:=HM.out.len
 refine wpIn_rangeM rfl (by omega) (gf:=124) (lb:=#[.pointer (some ⟨w.heap.size+1+1+1,0,none⟩)]) rfl trivial (enters_of Tryz.func124 (by kernel_rfl) rfl)
  (sub1_iter 4 (by omega) (w.heap.size+1+1+1) mA ml mc ms [w.heap.size+1+1] W3
   (fun M W hM hk=>⟨hk.cell (e4.cell 0) (fun hq=>by rcases hM _ hq with h | h <;> simp at h <;> omega),(HM.out.ext e5).keptM hk (fun h0 ad e hq=>by
    have h1:=HM.out.blk_lt h0 e;rcases hM _ hq with h | h
    ·simp at h;omega
    ·omega)⟩) hl)
  (fun _ _ _ _ h=>h.size) (fun _ _ _ _ _ _ h hs hk=>h.go hs hk) (MinI w rA rl rc mA ml mc rs) (MinX w rs ml)
  (fun _ _ _ _ h hb=>h.bel hb) (fun _ _ _ _ h hb=>h.bel hb) (fun _ _ _ _ _ hk0 h hn hk=>h.keep (Nat.le_trans e5.size hk0) hn hk) (fun _ _ _ _ _ hk0 h hn hk=>h.keep (Nat.le_trans e5.size hk0) hn hk)
  (fun M pre W h k hk=>by
   obtain⟨rfl,_,_,_,h3,_⟩:=h
   simp at hk;subst hk
   exact⟨_,h3,rfl⟩)
  ⟨rfl,by simp,e1,e2,e3,e5⟩
  (fun x args a' W=>∃(A:OA) (l c:Nat),args=#[.slice A l c]∧a'={ tmps:=#[.slice rA rl rc,.slice mA ml mc,.pointer (some ⟨w.heap.size,0,none⟩),.pointer (some ⟨w.heap.size+1,0,none⟩),.pointer (some ⟨w.heap.size+1+1,0,none⟩),.slice A l c,.slice mA ml mc,.func (.func 124) #[] #[.pointer (some ⟨w.heap.size+1+1+1,0,none⟩)],.slice A l c,undef,undef,undef,undef,undef,undef,undef,undef],defers:=[] })
  (fun _ _ _ _ _ _ h _ _=>h)
  ?assign ?body ?done ?stop
 case assign=>
  intro l M pre x args W K hi hg hK
  obtain⟨A,l',c,rfl,hs,ho⟩:=hg
  obtain⟨HI,HS,HO,E1,E2,E3,E4,E5,E6,HML⟩:=Zq10 hi hs ho e1 e2 e3 e4 e5 e6 hml;clear hi hs ho e1 e2 e3 e4 e5 e6 hml
  gi_wp2;exact hK _ _ (Below.refl _ _) ⟨A,l',c,rfl,rfl⟩
 case body=>
  rintro l M pre x args a' W ⟨rfl,hpre,b1,b2,b3,hw⟩ hpf ⟨A,l',c,rfl,hs,ho⟩ ⟨A2,l2,c2,he,rfl⟩;simp at he
  obtain⟨rfl,rfl,rfl⟩:=he
  have k0:W.cell? ⟨w.heap.size,0,none⟩=some (.slice rA rl rc):=b1.cell 0;have cS:=satisfies_any rA rl rc rs A l' c x W (H.out.ext hw) hs;have hxl:=hs.len;have hxc:=hs.cap;have hxm:=hs.max;change Calls _ _ _ _ fun e w'=>e=.returned (.bool (satCL rs x))∧Below W.heap.size W w' at cS
  cases hsat:satCL rs x with
  |false=>
   rw[hsat]at cS
   obtain⟨HPRE,B1,B2,B3,HW,HPF,HS,HO,CS,HSAT,E1,E2⟩:=Zq12 hpre b1 b2 b3 hw hpf hs ho cS hsat e1 e2;clear hpre b1 b2 b3 hw hpf hs ho cS hsat e1 e2
   obtain⟨E3,E4,E5,E6,HXL,HML⟩:=Zq6 e3 e4 e5 e6 hxl hml;clear e3 e4 e5 e6 hxl hml
   gi_wp2_with fail
   refine⟨trivial,?_⟩
   refine(callsIn_wide.2 CS.out).mono ?_
   rintro e w2 ⟨rfl,hb2⟩;have HB2:=Zq1 hb2;clear hb2;gi_wp2_with fail
   exact⟨_,⟨rfl,fun s hs=>by
    rcases List.mem_append.1 hs with h | h
    ·exact HPRE.out s h
    ·simp at h;subst h;exact HSAT.out,B1.out.bel HB2.out,B2.out.bel HB2.out,B3.out.bel HB2.out,bel_trans HW.out HB2.out⟩,Kept.of_below HB2.out _,fun k hk=>.inl hk⟩
  |true=>
   rw[hsat]at cS
   obtain⟨HPRE,B1,B2,B3,HW,HPF,HS,HO,CS,HSAT,E1,E2⟩:=Zq12 hpre b1 b2 b3 hw hpf hs ho cS hsat e1 e2;clear hpre b1 b2 b3 hw hpf hs ho cS hsat e1 e2
   obtain⟨E3,E4,E5,E6,HXL,HML⟩:=Zq6 e3 e4 e5 e6 hxl hml;clear e3 e4 e5 e6 hxl hml
   gi_wp2_with fail
   refine⟨trivial,?_⟩
   refine(callsIn_wide.2 CS.out).mono ?_
   rintro e w2 ⟨rfl,hb2⟩;have d2:=B2.out.bel hb2;have d3:=B3.out.bel hb2;have k1:w2.cell? ⟨w.heap.size+1,0,none⟩=some (.slice mA ml mc):=d2.cell 0;have k2:w2.cell? ⟨w.heap.size+1+1,0,none⟩=some (.bool false):=d3.cell 0;have k3:w2.frozen? ⟨w.heap.size+1+1,0,none⟩=false:=d3.frozen 0;have hbe:((l':Int)==(ml:Int))=decide (x.length=ml):=(by rw[HXL.out,Bool.eq_iff_iff];simp;omega);have HB2:=Zq1 hb2;clear hb2
   obtain⟨D2,D3,HBE⟩:=Zq3 d2 d3 hbe;clear d2 d3 hbe
   gi_wp2_with fail
   refine⟨⟨rfl,⟨pre,x,rfl,HPRE.out,HSAT.out,?_⟩,?_⟩,?_⟩
   ·rw[HBE.out];exact D3.out.set_ 0 _
   ·exact Kept.below (bel_trans HW.out HB2.out) ((Kept.refl [w.heap.size+1+1] w2).set (.inl (by simp)) _) (bel_trans HW.out HB2.out).size (fun q hq=>by simp at hq;omega)
   ·exact(Kept.of_below HB2.out _).set (.inl (by simp)) _
 case done=>
  intro D M W hD hi hdf
  obtain⟨rfl,hpre,b1,b2,b3,hw⟩:=hi
  have hn:∀o,W.heap[D]? = some o→o.isCells=false:=fun o h=>by rw[hdf]at h;cases h;rfl
  have k2:W.cell? ⟨w.heap.size+1+1,0,none⟩=some (.bool false):=b3.cell 0;have k3:W.frozen? ⟨w.heap.size+1+1,0,none⟩=false:=b3.frozen 0;have hDn:D≠w.heap.size+1+1:=blk_ne b3 hn;have hdf2:(W.setCell ⟨w.heap.size+1+1,0,none⟩ (.bool false)).heap[D]? = some (.deferred (some [])):=(Below.heap_setCell W ⟨w.heap.size+1+1,0,none⟩ _ D hDn).trans hdf;have hk1:Kept [w.heap.size+1+1] W (W.setCell ⟨w.heap.size+1+1,0,none⟩ (.bool false)):=(Kept.refl _ _).set (.inl (by simp)) _;have hb4:Blk (W.setCell ⟨w.heap.size+1+1,0,none⟩ (.bool false)) (w.heap.size+1+1) 4 #[.bool false]:=b3.set_ 0 _;have hkD:=kept_putObj (W.setCell ⟨w.heap.size+1+1,0,none⟩ (.bool false)) D (.deferred none);have hb5:Blk ((W.setCell ⟨w.heap.size+1+1,0,none⟩ (.bool false)).putObj D (.deferred none)) (w.heap.size+1+1) 4 #[.bool false]:=hkD.blk hb4 (by simp;omega);have hbf:Below w.heap.size w ((W.setCell ⟨w.heap.size+1+1,0,none⟩ (.bool false)).putObj D (.deferred none)):=Kept.below (Kept.below hw hk1 hw.size (fun q hq=>by simp at hq;omega)) hkD (Nat.le_trans hw.size hk1.size) (fun q hq=>by simp at hq;have:=e5.size;omega)
  have hmin:minC rs ms=false:=by
   unfold minC;rw[List.find?_eq_none.2 fun s hs=>by rw[hpre s hs];simp]
  obtain⟨HPRE,B1,B2,B3,HW,HN,E1,E2,E3,E4,E5,E6⟩:=Zq12 hpre b1 b2 b3 hw hn e1 e2 e3 e4 e5 e6;clear hpre b1 b2 b3 hw hn e1 e2 e3 e4 e5 e6
  obtain⟨HML,HDF2,HK1,HB4,HKD,HB5,HBF,HMIN⟩:=Zq8 hml hdf2 hk1 hb4 hkD hb5 hbf hmin;clear hml hdf2 hk1 hb4 hkD hb5 hbf hmin
  have HDF:=Zq1 hdf;clear hdf;gi_wp2_with fail
  refine⟨by simp,.inl ⟨_,_,rfl,run_takeDeferred HDF2.out,?_⟩⟩
  exact⟨_,results_cell_one rfl _ _ (w.heap.size+1+1) (.bool false) rfl (load_bool HB5.out),by rw[HMIN.out],HBF.out⟩
 case stop=>
  intro D c pre W hD hpre hx hdf
  obtain⟨rfl,⟨p,s,rfl,hp1,hp2,b3⟩,hw⟩:=hx
  have hn:∀o,W.heap[D]? = some o→o.isCells=false:=fun o h=>by rw[hdf]at h;cases h;rfl
  have hDn:D≠w.heap.size+1+1:=blk_ne b3 hn;have hkD:=kept_putObj W D (.deferred none);have hb5:Blk (W.putObj D (.deferred none)) (w.heap.size+1+1) 4 #[.bool (decide (s.length=ml))]:=hkD.blk b3 (by simp;omega);have hbf:Below w.heap.size w (W.putObj D (.deferred none)):=Kept.below hw hkD hw.size (fun q hq=>by simp at hq;have:=e5.size;omega)
  have hmin:minC rs ms=decide (s.length=ml):=by
   obtain⟨t,ht⟩:=hpre
   have hf:(subsL ms).find? (satCL rs)=some s:=List.find?_eq_some_iff_append.2 ⟨hp2,p,t,by rw[← ht];simp,fun x hx=>by rw[hp1 x hx];rfl⟩;unfold minC;rw[hf,hml]
  obtain⟨HPRE,B3,HW,HN,E1,E2,E3,E4,E5,E6,HML,HKD⟩:=Zq12 hpre b3 hw hn e1 e2 e3 e4 e5 e6 hml hkD;clear hpre b3 hw hn e1 e2 e3 e4 e5 e6 hml hkD
  obtain⟨HB5,HBF,HMIN,HP1,HP2⟩:=Zq5 hb5 hbf hmin hp1 hp2;clear hb5 hbf hmin hp1 hp2
  have HDF:=Zq1 hdf;clear hdf;gi_wp2_with fail
  refine⟨by simp,.inl ⟨_,_,rfl,run_takeDeferred HDF.out,?_⟩⟩
  exact⟨_,results_cell_one rfl _ _ (w.heap.size+1+1) (.bool (decide (s.length=ml))) rfl (load_bool HB5.out),by rw[HMIN.out],HBF.out⟩

/- Num -/
import Derived.Test.YthdjkenhkedjjaaGreatGY
import Derived.Test.YthdjkenhkedjjaaGreatSrw
set_option maxRecDepth 100000
set_option maxHeartbeats 4000000
namespace Go.Proofs.YthdjkenhkedjjaaGreat
open Go.RowKit
def intC (xs:LI):Array Value:=(xs.map (Value.int .i64)).toArray
theorem intC_set (xs:LI)(i:Nat)(v:Int):(intC xs).setIfInBounds i (.int .i64 v)=intC (xs.set i v):=by
 unfold intC;apply Array.ext';simp[List.map_set]
theorem intC_get (xs:LI)(i:Nat):(intC xs)[i]? = (xs[i]?).map (Value.int .i64):=by
 unfold intC;simp
theorem updZ_cells (xs:LI)(a v:Int)(h:0≤a)(k:Nat)(e:a=(k:Int)):(intC xs).setIfInBounds k (.int .i64 v)=intC (updZ xs a v):=by
 subst e;rw[intC_set];rfl
theorem numFill_snoc (i:Int)(out c:LI)(a:Int):numFill i out (c++[a])=updZ (numFill i out c) a i:=by
 unfold numFill;rw[List.foldl_append];rfl
theorem numGo_snoc:∀(cs:List (LI))(out:LI)(i:Int)(c:LI),numGo out i (cs++[c])=numFill (i+cs.length) (numGo out i cs) c
 |[],out,i,c=>by simp[numGo]
 |d::cs,out,i,c=>by
  rw[List.cons_append,numGo,numGo_snoc cs,numGo,List.length_cons]
  congr 1;omega
theorem numbers_any (n:Nat)(cA:OA)(cl cc:Nat)(cs:List (LI))(w:World)(hn:n≤4000)(hs:SlIs (slR intR) w cA cl cc cs)(hr:∀c∈cs,∀a∈c,0≤a∧a≤(n:Int)):
  Calls Tryz.prog 63 #[.int .i64 (n:Int),.slice cA cl cc] w fun e w'=>∃ub,e=.returned (.slice (some ⟨ub,0,none⟩) (n+1) (n+1))∧Blk w' ub 3 (intC (numL n cs))∧w.heap.size≤ub∧Below w.heap.size w w':=by
 have hlc:=hs.cap;have hlm:=hs.max;have hln:=hs.small;have hlen:=hs.len;have e1:IntKind.i64.wrap ((n:Int)+1)=(n:Int)+1:=IntWalk.i64_in _ (by omega)
 have hmk:∀W:World,(Instr.makeSlice 23 (.int .i64 ((n:Int)+1)) (.int .i64 ((n:Int)+1))).run Tryz.prog W=.ok (.slice (some ⟨W.heap.size,0,none⟩) (n+1) (n+1)) (W.alloc (.cells (intC (List.replicate (n+1) 0)) 3)):=fun W=>by
  have h:=run_make_row' (P:=Tryz.prog) 23 3 (.int .i64 0) 8 Tryz.underlying23 info_int rfl .i64 .i64 (n+1) (by omega) (by omega) W
  have e:madeCells #[Value.int .i64 0] (n+1)=intC (List.replicate (n+1) 0):=by
   unfold madeCells intC;apply Array.ext
   ·simp
   ·intro i h1 h2;simp[Nat.mod_one]
  rw[e]at h
  rwa [show (((n+1:Nat)):Int)=(n:Int)+1 by omega]at h
 obtain⟨HS,HR,HLEN⟩:=Zq3 hs hr hlen;clear hs hr hlen
 go_enter Tryz.func63,Tryz.ntmps63;go_wp2_with fail;have b0:Blk (w.alloc (.cells (intC (List.replicate (n+1) 0)) 3)) w.heap.size 3 (intC (List.replicate (n+1) 0)):=blk_new rfl _ _;have hb0:=bel_alloc w (.cells (intC (List.replicate (n+1) 0)) 3);have hs0:w.heap.size<(w.alloc (.cells (intC (List.replicate (n+1) 0)) 3)).heap.size:=(by simp);generalize w.alloc (.cells (intC (List.replicate (n+1) 0)) 3)=W1 at *;clear hmk e1
 obtain⟨B0,HB0⟩:=Zq2 b0 hb0;clear b0 hb0
 go_loopw [15] (fun t wr=>∃(ir:Nat),ir≤cl∧t=.int .i64 (ir:Int)∧Blk wr w.heap.size 3 (intC (numGo (List.replicate (n+1) 0) 0 (cs.take ir)))∧Below w.heap.size w wr) (fun t _=>cl-(intOf t).toNat)
 case atStart=>exact⟨0,Nat.zero_le _,rfl,B0.out,HB0.out⟩
 case round=>
  obtain⟨ir,hi,rfl,hbk,hbl⟩:=hrel
  obtain⟨wo,rfl⟩:∃wo:World,wo=wr:=⟨_,rfl⟩
  by_cases hlt:ir<cl
  ·obtain⟨c,hci,-⟩:=HS.out.drop hlt
   obtain⟨xb,xo,xA,xl,xc,rfl,lx0,cx0,hx⟩:=HS.out.set hci
   have cx:=(hbl.cell (World.block_lt_of_cell? _ _ cx0)).trans cx0;clear cx0;have k0:(0:Int)≤(ir:Int):=(by omega);have k1:(ir:Int)<(cl:Int):=(by omega);have hxc:=hx.cap;have hxm:=hx.max;have hxl:=hx.len;have hcr:=HR.out c (List.mem_of_getElem? hci)
   obtain⟨out,hout⟩:∃out,out=numGo (List.replicate (n+1) 0) 0 (cs.take ir):=⟨_,rfl⟩
   rw[← hout]at hbk;have hol:out.length=n+1:=(by rw[hout,numGo_len,List.length_replicate])
   obtain⟨HCI,HX,HCR,HBK,HBL,HOUT,HOL,HXL⟩:=Zq8 hci hx hcr hbk hbl hout hol hxl;clear hci hx hcr hbk hbl hout hol hxl
   go_wp2_with fail;clear cx;go_loopw [22] (fun t wr=>∃(j:Nat),j≤xl∧t=.int .i64 (j:Int)∧Blk wr w.heap.size 3 (intC (numFill (ir:Int) out (c.take j)))∧Kept [w.heap.size] wo wr) (fun t _=>xl-(intOf t).toNat)
   case atStart=>exact⟨0,Nat.zero_le _,rfl,HBK.out,Kept.refl _ _⟩
   case round=>
    obtain⟨j,hj,rfl,hb2,hk2⟩:=hrel
    obtain⟨wi,rfl⟩:∃wi:World,wi=wr:=⟨_,rfl⟩
    have hbi:=Kept.below HBL.out hk2 HBL.out.size (by simp)
    by_cases hjl:j<xl
    ·obtain⟨a,haj,-⟩:=HX.out.drop hjl
     have hxi:=HX.out.ext hbi
     obtain⟨ab,ao,rfl,la,ca,a64⟩:=hxi.int haj
     obtain⟨a0,a1⟩:=HCR.out a (List.mem_of_getElem? haj)
     obtain⟨an,rfl⟩:∃an:Nat,a=(an:Int):=⟨a.toNat,by omega⟩
     have j0:(0:Int)≤(j:Int):=(by omega);have j1:(j:Int)<(xl:Int):=(by omega);have an1:(an:Int)<(n:Int)+1:=(by omega);have hfl:(numFill (ir:Int) out (c.take j)).length=n+1:=(by rw[numFill_len];exact HOL.out)
     obtain⟨z,m0⟩:∃z,wi.cell? ⟨w.heap.size,an,none⟩=some (.int .i64 z):=⟨_,by rw[hb2.cell,intC_get,List.getElem?_eq_getElem (show an<(numFill (ir:Int) out (c.take j)).length by omega)];rfl⟩
     have mz:=hb2.frozen an;have hb3:=hb2.set_ an (.int .i64 (ir:Int));rw[updZ_cells _ (an:Int) _ a0 an rfl,← numFill_snoc,← take_snoc' haj]at hb3;have hk3:=hk2.set (p:=⟨w.heap.size,an,none⟩) (.inl (by simp)) (.int .i64 (ir:Int))
     obtain⟨HAJ,HXI,HB2,HK2,HB3,HK3,HBI,HFL⟩:=Zq8 haj hxi hb2 hk2 hb3 hk3 hbi hfl;clear haj hxi hb2 hk2 hb3 hk3 hbi hfl
     go_wp2_with fail;go_roundw;exact⟨j+1,by omega,by go_num,HB3.out,HK3.out⟩;simp[intOf];omega
    ·obtain rfl:xl=j:=(by omega);rw[List.take_of_length_le (by have:=HXL.out;omega)]at hb2
     have hst:numFill (ir:Int) out c=numGo (List.replicate (n+1) 0) 0 (cs.take (ir+1)):=by
      rw[take_snoc' HCI.out,numGo_snoc,← HOUT.out,List.length_take]
      congr 1
      have:=HLEN.out
      omega
     rw[hst]at hb2
     obtain⟨HB2,HK2,HBI,HST⟩:=Zq4 hb2 hk2 hbi hst;clear hb2 hk2 hbi hst
     go_wp2_with fail;go_roundw;exact⟨ir+1,by omega,by go_num,HB2.out,HBI.out⟩;simp[intOf];omega
  ·obtain rfl:cl=ir:=(by omega);rw[List.take_of_length_le (by have:=HLEN.out;omega)]at hbk
   obtain⟨HBK,HBL⟩:=Zq2 hbk hbl;clear hbk hbl
   go_wp2_with fail;go_ret
   exact⟨_,rfl,HBK.out,Nat.le_refl _,HBL.out⟩

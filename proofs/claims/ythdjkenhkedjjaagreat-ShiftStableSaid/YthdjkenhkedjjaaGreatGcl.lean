/- Gcl -/
import Derived.Test.YthdjkenhkedjjaaGreatGS
import Derived.Test.YthdjkenhkedjjaaGreatInv
import Derived.Test.YthdjkenhkedjjaaGreatRat
import Derived.Deep.Cut
set_option maxRecDepth 100000
set_option maxHeartbeats 4000000
namespace Go.Proofs.YthdjkenhkedjjaaGreat
open Go.RowKit
def sel (b:Bool)(x y:Value):Value:=if b then x else y
def RowN {α:Type}(R:Rep α)(e:TypeId)(T:LN)(B:Nat)(W:World)(v:Value)(xs:List α):Prop:=RowK R e W T B W v xs
section
variable {α : Type} {R : Rep α} {e : TypeId} {T : LN} {B : Nat} {W : World} {v : Value} {xs : List α}
theorem RowN.own (h:RowN R e T B W v xs){k:Nat}(hk:v.ownBlock=some k):k∈T∧B≤k∧k<W.heap.size:=by
 have h1:=RowK.lt h hk;rcases h.1.2.2 k hk with h2 | h2
 ·exact⟨h2,h1⟩
 ·omega
theorem RowN.of {w0:World}{S:LN}(h:RowK R e w0 S B W v xs)(hT:∀k∈T,k∈S∨w0.heap.size≤k)(hv:∀k,v.ownBlock=some k→k∈T):RowN R e T B W v xs:=h.now hT hv
theorem RowN.step {W':World}{T':LN}(h:RowN R e T B W v xs)(hk:Kept T' W W')(hT:∀k∈T',(k∈T∨W.heap.size≤k)∧v.ownBlock≠some k):RowN R e T B W' v xs:=
 (RowK.kept h hk hT).now (fun _ h=>.inl h) (fun _ hk=>(RowN.own h hk).1)
theorem RowN.bel {W':World}(h:RowN R e T B W v xs)(hb:Below W.heap.size W W'):RowN R e T B W' v xs:=h.step (Kept.of_below hb []) (by simp)
theorem RowN.put {g n cap:Nat}(h:RowN R e T B W (.slice (some ⟨g,0,none⟩) n cap) xs){i j:Nat}{x x':α}(hx:xs[i]? = some x)(hj:j<R.size)(u:Value)
  (hc:∀c,Stab R T W c x→c.length=R.size→Stab R T W (c.set j u) x'):RowN R e T B (W.setCell ⟨g,i*R.size+j,none⟩ u) (.slice (some ⟨g,0,none⟩) n cap) (xs.set i x'):=
 (RowK.put h hx hj u hc).now (fun _ h=>.inl h) (fun _ hk=>(RowN.own h hk).1)
end
theorem OwnB.stabI {w0 W:World}{B:Nat}{A:OA}{l c:Nat}{xs:LI}(h:OwnB intR 3 w0 B W (.slice A l c) xs)(hs:xs.length≤1000000){T:LN}(hT:∀k∈T,k<B):StabS intR T W A l c xs:=by
 obtain⟨A',c',e,h2⟩:=h.sl (by omega)
 injection e with e1 e2 e3;subst e1 e2 e3
 exact StabS.ints h2 (fun h0 ad e hm=>by
  subst e
  have:=(h.lt (k:=ad.block) rfl).1
  have:=hT _ hm
  omega)
structure ClnJ (v0 w X:World)(p:GProg)(nA:OA)(nl nc:Nat)(sA:OA)(sl sc:Nat)(rA:OA)(rl rc:Nat)(mA:OA)(ml mc:Nat)(W:World)(b0 b1 b2 b3 b4 b5 b6 b7 b8 b9 b10 b11 b12 b13 b14 b15 b16 b17 b18 b19:Bool)(u7 u8 u9 u10 u11 u12 u13 u14 u15 u16 u17 u18 u19 u20 u21 u22:Value):Prop where
 f0:b0=true→u7=.pointer (some ⟨w.heap.size,1,none⟩)
 f1:b1=true→u8=.slice nA nl nc
 f3:b3=true→u10=.pointer (some ⟨w.heap.size,2,none⟩)
 f4:b4=true→u11=.slice sA sl sc
 f6:b6=true→u13=.pointer (some ⟨w.heap.size,3,none⟩)
 f7:b7=true→u14=.slice rA rl rc
 f9:b9=true→u16=.pointer (some ⟨w.heap.size,4,none⟩)
 f10:b10=true→u17=.slice mA ml mc
 f12:b12=true→u19=.pointer (some ⟨w.heap.size,1,none⟩)
 f14:b14=true→u20=.pointer (some ⟨w.heap.size,2,none⟩)
 f16:b16=true→u21=.pointer (some ⟨w.heap.size,3,none⟩)
 f18:b18=true→u22=.pointer (some ⟨w.heap.size,4,none⟩)
 c2:b2=true→OwnB strR 9 v0 X.heap.size W u9 p.names
 d2:b2=true→b1=true
 d13:b13=true→b2=true
 c5:b5=true→OwnB intR 3 v0 X.heap.size W u12 p.shown
 d5:b5=true→b4=true
 d15:b15=true→b5=true
 c8:b8=true→OwnB ruleR 42 v0 X.heap.size W u15 p.rules
 d8:b8=true→b7=true
 d17:b17=true→b8=true
 c11:b11=true→OwnB minR 67 v0 X.heap.size W u18 p.min
 d11:b11=true→b10=true
 d19:b19=true→b11=true
 kp:Kept [w.heap.size] X W
 bx:Blk W w.heap.size 27 #[.int .i64 p.n,sel b13 u9 (.slice nA nl nc),sel b15 u12 (.slice sA sl sc),sel b17 u15 (.slice rA rl rc),sel b19 u18 (.slice mA ml mc)]
section
variable {v0 w X : World} {p : GProg} {nA : OA} {nl nc : Nat} {sA : OA} {sl sc : Nat} {rA : OA} {rl rc : Nat} {mA : OA} {ml mc : Nat} {W : World} {b0 b1 b2 b3 b4 b5 b6 b7 b8 b9 b10 b11 b12 b13 b14 b15 b16 b17 b18 b19 : Bool} {u7 u8 u9 u10 u11 u12 u13 u14 u15 u16 u17 u18 u19 u20 u21 u22 : Value}
theorem ClnJ.start (hk:Kept [w.heap.size] X W)(hb:Blk W w.heap.size 27 #[.int .i64 p.n,.slice nA nl nc,.slice sA sl sc,.slice rA rl rc,.slice mA ml mc]):ClnJ v0 w X p nA nl nc sA sl sc rA rl rc mA ml mc W false false false false false false false false false false false false false false false false false false false false u7 u8 u9 u10 u11 u12 u13 u14 u15 u16 u17 u18 u19 u20 u21 u22:=
 ⟨by simp,by simp,by simp,by simp,by simp,by simp,by simp,by simp,by simp,by simp,by simp,by simp,by simp,by simp,by simp,by simp,by simp,by simp,by simp,by simp,by simp,by simp,by simp,by simp,hk,hb⟩
theorem ClnJ.bel (h:ClnJ v0 w X p nA nl nc sA sl sc rA rl rc mA ml mc W b0 b1 b2 b3 b4 b5 b6 b7 b8 b9 b10 b11 b12 b13 b14 b15 b16 b17 b18 b19 u7 u8 u9 u10 u11 u12 u13 u14 u15 u16 u17 u18 u19 u20 u21 u22){W':World}(hb:Below W.heap.size W W'):ClnJ v0 w X p nA nl nc sA sl sc rA rl rc mA ml mc W' b0 b1 b2 b3 b4 b5 b6 b7 b8 b9 b10 b11 b12 b13 b14 b15 b16 b17 b18 b19 u7 u8 u9 u10 u11 u12 u13 u14 u15 u16 u17 u18 u19 u20 u21 u22:=
 { h with c2:=fun e=>(h.c2 e).bel hb,c5:=fun e=>(h.c5 e).bel hb,c8:=fun e=>(h.c8 e).bel hb,c11:=fun e=>(h.c11 e).bel hb,kp:=h.kp.bel hb,bx:=h.bx.bel hb }
theorem ClnJ.call2 (h:ClnJ v0 w X p nA nl nc sA sl sc rA rl rc mA ml mc W b0 true false b3 b4 b5 b6 b7 b8 b9 b10 b11 b12 b13 b14 b15 b16 b17 b18 b19 u7 u8 u9 u10 u11 u12 u13 u14 u15 u16 u17 u18 u19 u20 u21 u22){W':World}(hb:Below W.heap.size W W'){u':Value}(hu:OwnB strR 9 v0 X.heap.size W' u' p.names):ClnJ v0 w X p nA nl nc sA sl sc rA rl rc mA ml mc W' b0 true true b3 b4 b5 b6 b7 b8 b9 b10 b11 b12 b13 b14 b15 b16 b17 b18 b19 u7 u8 u' u10 u11 u12 u13 u14 u15 u16 u17 u18 u19 u20 u21 u22:=by
 have hs:b13=false:=by cases b13 with | false=>rfl | true=>have:=h.d13 rfl;cases this
 subst hs;have h':=h.bel hb;exact { h' with c2:=fun _=>hu,d2:=fun _=>rfl,d13:=by simp,bx:=by have:=h'.bx;simpa[sel]using this }
theorem ClnJ.cell1 (h:ClnJ v0 w X p nA nl nc sA sl sc rA rl rc mA ml mc W b0 false b2 b3 b4 b5 b6 b7 b8 b9 b10 b11 b12 b13 b14 b15 b16 b17 b18 b19 u7 u8 u9 u10 u11 u12 u13 u14 u15 u16 u17 u18 u19 u20 u21 u22):W.cell? ⟨w.heap.size,1,none⟩=some (.slice nA nl nc):=by
 have hs:b13=false:=by
  cases b13 with
  |false=>rfl
  |true=>have:=h.d2 (h.d13 rfl);cases this
 subst hs;exact h.bx.cell 1
theorem ClnJ.store13 (h:ClnJ v0 w X p nA nl nc sA sl sc rA rl rc mA ml mc W b0 b1 true b3 b4 b5 b6 b7 b8 b9 b10 b11 b12 false b14 b15 b16 b17 b18 b19 u7 u8 u9 u10 u11 u12 u13 u14 u15 u16 u17 u18 u19 u20 u21 u22)(hv:v0.heap.size≤w.heap.size)(hg:w.heap.size<X.heap.size):ClnJ v0 w X p nA nl nc sA sl sc rA rl rc mA ml mc (W.setCell ⟨w.heap.size,1,none⟩ u9) b0 b1 true b3 b4 b5 b6 b7 b8 b9 b10 b11 b12 true b14 b15 b16 b17 b18 b19 u7 u8 u9 u10 u11 u12 u13 u14 u15 u16 u17 u18 u19 u20 u21 u22:=
 { h with c2:=fun e=>(h.c2 e).set (p:=⟨w.heap.size,1,none⟩) hv hg u9,c5:=fun e=>(h.c5 e).set (p:=⟨w.heap.size,1,none⟩) hv hg u9,c8:=fun e=>(h.c8 e).set (p:=⟨w.heap.size,1,none⟩) hv hg u9,c11:=fun e=>(h.c11 e).set (p:=⟨w.heap.size,1,none⟩) hv hg u9,d13:=fun _=>rfl,kp:=h.kp.set (.inl (by simp)) _,bx:=by simpa[sel]using h.bx.set_ 1 u9 }
theorem ClnJ.call5 (h:ClnJ v0 w X p nA nl nc sA sl sc rA rl rc mA ml mc W b0 b1 b2 b3 true false b6 b7 b8 b9 b10 b11 b12 b13 b14 b15 b16 b17 b18 b19 u7 u8 u9 u10 u11 u12 u13 u14 u15 u16 u17 u18 u19 u20 u21 u22){W':World}(hb:Below W.heap.size W W'){u':Value}(hu:OwnB intR 3 v0 X.heap.size W' u' p.shown):ClnJ v0 w X p nA nl nc sA sl sc rA rl rc mA ml mc W' b0 b1 b2 b3 true true b6 b7 b8 b9 b10 b11 b12 b13 b14 b15 b16 b17 b18 b19 u7 u8 u9 u10 u11 u' u13 u14 u15 u16 u17 u18 u19 u20 u21 u22:=by
 have hs:b15=false:=by cases b15 with | false=>rfl | true=>have:=h.d15 rfl;cases this
 subst hs;have h':=h.bel hb;exact { h' with c5:=fun _=>hu,d5:=fun _=>rfl,d15:=by simp,bx:=by have:=h'.bx;simpa[sel]using this }
theorem ClnJ.cell2 (h:ClnJ v0 w X p nA nl nc sA sl sc rA rl rc mA ml mc W b0 b1 b2 b3 false b5 b6 b7 b8 b9 b10 b11 b12 b13 b14 b15 b16 b17 b18 b19 u7 u8 u9 u10 u11 u12 u13 u14 u15 u16 u17 u18 u19 u20 u21 u22):W.cell? ⟨w.heap.size,2,none⟩=some (.slice sA sl sc):=by
 have hs:b15=false:=by
  cases b15 with
  |false=>rfl
  |true=>have:=h.d5 (h.d15 rfl);cases this
 subst hs;exact h.bx.cell 2
theorem ClnJ.store15 (h:ClnJ v0 w X p nA nl nc sA sl sc rA rl rc mA ml mc W b0 b1 b2 b3 b4 true b6 b7 b8 b9 b10 b11 b12 b13 b14 false b16 b17 b18 b19 u7 u8 u9 u10 u11 u12 u13 u14 u15 u16 u17 u18 u19 u20 u21 u22)(hv:v0.heap.size≤w.heap.size)(hg:w.heap.size<X.heap.size):ClnJ v0 w X p nA nl nc sA sl sc rA rl rc mA ml mc (W.setCell ⟨w.heap.size,2,none⟩ u12) b0 b1 b2 b3 b4 true b6 b7 b8 b9 b10 b11 b12 b13 b14 true b16 b17 b18 b19 u7 u8 u9 u10 u11 u12 u13 u14 u15 u16 u17 u18 u19 u20 u21 u22:=
 { h with c2:=fun e=>(h.c2 e).set (p:=⟨w.heap.size,2,none⟩) hv hg u12,c5:=fun e=>(h.c5 e).set (p:=⟨w.heap.size,2,none⟩) hv hg u12,c8:=fun e=>(h.c8 e).set (p:=⟨w.heap.size,2,none⟩) hv hg u12,c11:=fun e=>(h.c11 e).set (p:=⟨w.heap.size,2,none⟩) hv hg u12,d15:=fun _=>rfl,kp:=h.kp.set (.inl (by simp)) _,bx:=by simpa[sel]using h.bx.set_ 2 u12 }
theorem ClnJ.call8 (h:ClnJ v0 w X p nA nl nc sA sl sc rA rl rc mA ml mc W b0 b1 b2 b3 b4 b5 b6 true false b9 b10 b11 b12 b13 b14 b15 b16 b17 b18 b19 u7 u8 u9 u10 u11 u12 u13 u14 u15 u16 u17 u18 u19 u20 u21 u22){W':World}(hb:Below W.heap.size W W'){u':Value}(hu:OwnB ruleR 42 v0 X.heap.size W' u' p.rules):ClnJ v0 w X p nA nl nc sA sl sc rA rl rc mA ml mc W' b0 b1 b2 b3 b4 b5 b6 true true b9 b10 b11 b12 b13 b14 b15 b16 b17 b18 b19 u7 u8 u9 u10 u11 u12 u13 u14 u' u16 u17 u18 u19 u20 u21 u22:=by
 have hs:b17=false:=by cases b17 with | false=>rfl | true=>have:=h.d17 rfl;cases this
 subst hs;have h':=h.bel hb;exact { h' with c8:=fun _=>hu,d8:=fun _=>rfl,d17:=by simp,bx:=by have:=h'.bx;simpa[sel]using this }
theorem ClnJ.cell3 (h:ClnJ v0 w X p nA nl nc sA sl sc rA rl rc mA ml mc W b0 b1 b2 b3 b4 b5 b6 false b8 b9 b10 b11 b12 b13 b14 b15 b16 b17 b18 b19 u7 u8 u9 u10 u11 u12 u13 u14 u15 u16 u17 u18 u19 u20 u21 u22):W.cell? ⟨w.heap.size,3,none⟩=some (.slice rA rl rc):=by
 have hs:b17=false:=by
  cases b17 with
  |false=>rfl
  |true=>have:=h.d8 (h.d17 rfl);cases this
 subst hs;exact h.bx.cell 3
theorem ClnJ.store17 (h:ClnJ v0 w X p nA nl nc sA sl sc rA rl rc mA ml mc W b0 b1 b2 b3 b4 b5 b6 b7 true b9 b10 b11 b12 b13 b14 b15 b16 false b18 b19 u7 u8 u9 u10 u11 u12 u13 u14 u15 u16 u17 u18 u19 u20 u21 u22)(hv:v0.heap.size≤w.heap.size)(hg:w.heap.size<X.heap.size):ClnJ v0 w X p nA nl nc sA sl sc rA rl rc mA ml mc (W.setCell ⟨w.heap.size,3,none⟩ u15) b0 b1 b2 b3 b4 b5 b6 b7 true b9 b10 b11 b12 b13 b14 b15 b16 true b18 b19 u7 u8 u9 u10 u11 u12 u13 u14 u15 u16 u17 u18 u19 u20 u21 u22:=
 { h with c2:=fun e=>(h.c2 e).set (p:=⟨w.heap.size,3,none⟩) hv hg u15,c5:=fun e=>(h.c5 e).set (p:=⟨w.heap.size,3,none⟩) hv hg u15,c8:=fun e=>(h.c8 e).set (p:=⟨w.heap.size,3,none⟩) hv hg u15,c11:=fun e=>(h.c11 e).set (p:=⟨w.heap.size,3,none⟩) hv hg u15,d17:=fun _=>rfl,kp:=h.kp.set (.inl (by simp)) _,bx:=by simpa[sel]using h.bx.set_ 3 u15 }
theorem ClnJ.call11 (h:ClnJ v0 w X p nA nl nc sA sl sc rA rl rc mA ml mc W b0 b1 b2 b3 b4 b5 b6 b7 b8 b9 true false b12 b13 b14 b15 b16 b17 b18 b19 u7 u8 u9 u10 u11 u12 u13 u14 u15 u16 u17 u18 u19 u20 u21 u22){W':World}(hb:Below W.heap.size W W'){u':Value}(hu:OwnB minR 67 v0 X.heap.size W' u' p.min):ClnJ v0 w X p nA nl nc sA sl sc rA rl rc mA ml mc W' b0 b1 b2 b3 b4 b5 b6 b7 b8 b9 true true b12 b13 b14 b15 b16 b17 b18 b19 u7 u8 u9 u10 u11 u12 u13 u14 u15 u16 u17 u' u19 u20 u21 u22:=by
 have hs:b19=false:=by cases b19 with | false=>rfl | true=>have:=h.d19 rfl;cases this
 subst hs;have h':=h.bel hb;exact { h' with c11:=fun _=>hu,d11:=fun _=>rfl,d19:=by simp,bx:=by have:=h'.bx;simpa[sel]using this }
theorem ClnJ.cell4 (h:ClnJ v0 w X p nA nl nc sA sl sc rA rl rc mA ml mc W b0 b1 b2 b3 b4 b5 b6 b7 b8 b9 false b11 b12 b13 b14 b15 b16 b17 b18 b19 u7 u8 u9 u10 u11 u12 u13 u14 u15 u16 u17 u18 u19 u20 u21 u22):W.cell? ⟨w.heap.size,4,none⟩=some (.slice mA ml mc):=by
 have hs:b19=false:=by
  cases b19 with
  |false=>rfl
  |true=>have:=h.d11 (h.d19 rfl);cases this
 subst hs;exact h.bx.cell 4
theorem ClnJ.store19 (h:ClnJ v0 w X p nA nl nc sA sl sc rA rl rc mA ml mc W b0 b1 b2 b3 b4 b5 b6 b7 b8 b9 b10 true b12 b13 b14 b15 b16 b17 b18 false u7 u8 u9 u10 u11 u12 u13 u14 u15 u16 u17 u18 u19 u20 u21 u22)(hv:v0.heap.size≤w.heap.size)(hg:w.heap.size<X.heap.size):ClnJ v0 w X p nA nl nc sA sl sc rA rl rc mA ml mc (W.setCell ⟨w.heap.size,4,none⟩ u18) b0 b1 b2 b3 b4 b5 b6 b7 b8 b9 b10 true b12 b13 b14 b15 b16 b17 b18 true u7 u8 u9 u10 u11 u12 u13 u14 u15 u16 u17 u18 u19 u20 u21 u22:=
 { h with c2:=fun e=>(h.c2 e).set (p:=⟨w.heap.size,4,none⟩) hv hg u18,c5:=fun e=>(h.c5 e).set (p:=⟨w.heap.size,4,none⟩) hv hg u18,c8:=fun e=>(h.c8 e).set (p:=⟨w.heap.size,4,none⟩) hv hg u18,c11:=fun e=>(h.c11 e).set (p:=⟨w.heap.size,4,none⟩) hv hg u18,d19:=fun _=>rfl,kp:=h.kp.set (.inl (by simp)) _,bx:=by simpa[sel]using h.bx.set_ 4 u18 }
end
theorem OwnB.mono {α:Type}{R:Rep α}{e:TypeId}{w0 W:World}{B B':Nat}{v:Value}{xs:List α}(h:OwnB R e w0 B W v xs)(h1:w0.heap.size≤B')(h2:B'≤B):OwnB R e w0 B' W v xs:=by
 obtain⟨⟨a,_,c⟩,cs,⟨k1,k2⟩,d⟩:=h
 refine⟨⟨a,h1,Nat.le_trans h2 c⟩,cs,⟨k1,?_⟩,d⟩
 rcases k2 with k2 | ⟨g,cap,cur,e1,e2,e3,e4⟩
 ·exact .inl k2
 ·exact .inr ⟨g,cap,cur,e1,Nat.le_trans h2 e2,e3,e4⟩
theorem OwnB.form {α:Type}{R:Rep α}{e:TypeId}{w0 W:World}{B:Nat}{v:Value}{xs:List α}(h:OwnB R e w0 B W v xs):∃(A:OA)(l c:Nat),v=.slice A l c:=by
 obtain⟨_,cs,h2,_⟩:=h
 rcases h2.2 with⟨rfl,_⟩ | ⟨_,_,_,rfl,_⟩
 ·exact⟨_,_,_,rfl⟩
 ·exact⟨_,_,_,rfl⟩
structure ClnS (w:World)(p:GProg)(T:LN)(nv sv rv mv:Value)(W:World):Prop where
 bel:Below w.heap.size w W
 bx:Blk W w.heap.size 27 #[.int .i64 p.n,nv,sv,rv,mv]
 rs:Blk W (w.heap.size+1) 27 #[.int .i64 0,.slice none 0 0,.slice none 0 0,.slice none 0 0,.slice none 0 0]
 rn:RowN strR 9 T w.heap.size W nv p.names
 rh:RowN intR 3 T w.heap.size W sv p.shown
 rr:RowN ruleR 42 T w.heap.size W rv p.rules
 rm:RowN minR 67 T w.heap.size W mv p.min
theorem ClnS.ext {w:World}{p:GProg}{T:LN}{nv sv rv mv:Value}{W W':World}(h:ClnS w p T nv sv rv mv W)(hb:Below W.heap.size W W'):ClnS w p T nv sv rv mv W':=
 ⟨h.bel.trans (hb.mono h.bel.size),h.bx.bel hb,h.rs.bel hb,h.rn.bel hb,h.rh.bel hb,h.rr.bel hb,h.rm.bel hb⟩
theorem own_ty {W:World}{B B':Nat}{e e':TypeId}{z z' n n':Nat}{v v':Value}{cs cs':List Value}(h:W.ownsRow B e z v n cs)(h':W.ownsRow B' e' z' v' n' cs')(ht:e≠e'){k:Nat}(hk:v.ownBlock=some k):v'.ownBlock≠some k:=fun hk'=>by
 rcases h.2 with⟨rfl,_⟩ | ⟨g,cap,cur,rfl,_,hg,_⟩
 ·simp[Value.ownBlock]at hk
 ·rcases h'.2 with⟨rfl,_⟩ | ⟨g',cap',cur',rfl,_,hg',_⟩
  ·simp[Value.ownBlock]at hk'
  ·simp[Value.ownBlock]at hk hk';subst hk hk'
   have:=hg.symm.trans hg'
   simp at this;exact ht this.2
theorem own_blk {W:World}{B:Nat}{e:TypeId}{z n:Nat}{v:Value}{cs:List Value}(h:W.ownsRow B e z v n cs){g:Nat}{t:TypeId}{c:Array Value}(hb:Blk W g t c)(ht:e≠t):v.ownBlock≠some g:=fun hk=>by
 rcases h.2 with⟨rfl,_⟩ | ⟨g',cap,cur,rfl,_,hg,_⟩
 ·simp[Value.ownBlock]at hk
 ·simp[Value.ownBlock]at hk;subst hk
  have:=hg.symm.trans hb
  simp at this;exact ht this.2
theorem ClnS.rules {w:World}{p:GProg}{T:LN}{nv sv mv:Value}{g n cap:Nat}{W W':World}(h:ClnS w p T nv sv (.slice (some ⟨g,0,none⟩) n cap) mv W)(hk:Kept [g] W W')(hr:RowN ruleR 42 T w.heap.size W' (.slice (some ⟨g,0,none⟩) n cap) p.rules):ClnS w p T nv sv (.slice (some ⟨g,0,none⟩) n cap) mv W':=by
 obtain⟨hgT,hgB,hgW⟩:=h.rr.own (k:=g) rfl
 obtain⟨_,c1,o1,_⟩:=h.rr
 obtain⟨_,c2,o2,_⟩:=h.rn
 obtain⟨_,c3,o3,_⟩:=h.rh
 obtain⟨_,c4,o4,_⟩:=h.rm
 have t0:∀{v:Value},v.ownBlock≠some g→∀k∈[g],(k∈T∨W.heap.size≤k)∧v.ownBlock≠some k:=fun hv k hk=>by simp at hk;subst hk;exact⟨.inl hgT,hv⟩
 exact⟨Kept.below h.bel hk h.bel.size (by simpa using hgB),hk.blk h.bx (by simp;intro e;exact own_blk o1 h.bx (by decide) (by rw[e];rfl)),hk.blk h.rs (by simp;intro e;exact own_blk o1 h.rs (by decide) (by rw[e];rfl)),
  h.rn.step hk (t0 (own_ty o1 o2 (by decide) rfl)),h.rh.step hk (t0 (own_ty o1 o3 (by decide) rfl)),hr,h.rm.step hk (t0 (own_ty o1 o4 (by decide) rfl))⟩
theorem ClnS.mins {w:World}{p:GProg}{T:LN}{nv sv rv:Value}{g n cap:Nat}{W W':World}(h:ClnS w p T nv sv rv (.slice (some ⟨g,0,none⟩) n cap) W)(hk:Kept [g] W W')(hr:RowN minR 67 T w.heap.size W' (.slice (some ⟨g,0,none⟩) n cap) p.min):ClnS w p T nv sv rv (.slice (some ⟨g,0,none⟩) n cap) W':=by
 obtain⟨hgT,hgB,hgW⟩:=h.rm.own (k:=g) rfl
 obtain⟨_,c1,o1,_⟩:=h.rm
 obtain⟨_,c2,o2,_⟩:=h.rn
 obtain⟨_,c3,o3,_⟩:=h.rh
 obtain⟨_,c4,o4,_⟩:=h.rr
 have t0:∀{v:Value},v.ownBlock≠some g→∀k∈[g],(k∈T∨W.heap.size≤k)∧v.ownBlock≠some k:=fun hv k hk=>by simp at hk;subst hk;exact⟨.inl hgT,hv⟩
 exact⟨Kept.below h.bel hk h.bel.size (by simpa using hgB),hk.blk h.bx (by simp;intro e;exact own_blk o1 h.bx (by decide) (by rw[e];rfl)),hk.blk h.rs (by simp;intro e;exact own_blk o1 h.rs (by decide) (by rw[e];rfl)),
  h.rn.step hk (t0 (own_ty o1 o2 (by decide) rfl)),h.rh.step hk (t0 (own_ty o1 o3 (by decide) rfl)),h.rr.step hk (t0 (own_ty o1 o4 (by decide) rfl)),hr⟩
theorem ClnS.last {w:World}{p:GProg}{T:LN}{nv sv rv mv:Value}{W:World}(h:ClnS w p T nv sv rv mv W)(hT:w.heap.size+1∈T)(cs:Array Value):
  Below w.heap.size w (W.setRow (w.heap.size+1) cs)∧RowN strR 9 T w.heap.size (W.setRow (w.heap.size+1) cs) nv p.names∧RowN intR 3 T w.heap.size (W.setRow (w.heap.size+1) cs) sv p.shown∧RowN ruleR 42 T w.heap.size (W.setRow (w.heap.size+1) cs) rv p.rules∧RowN minR 67 T w.heap.size (W.setRow (w.heap.size+1) cs) mv p.min:=by
 have hk:Kept [w.heap.size+1] W (W.setRow (w.heap.size+1) cs):=(Kept.refl _ _).row (.inl (by simp)) _
 obtain⟨_,c1,o1,_⟩:=h.rr
 obtain⟨_,c2,o2,_⟩:=h.rn
 obtain⟨_,c3,o3,_⟩:=h.rh
 obtain⟨_,c4,o4,_⟩:=h.rm
 have t0:∀{v:Value},v.ownBlock≠some (w.heap.size+1)→∀k∈[w.heap.size+1],(k∈T∨W.heap.size≤k)∧v.ownBlock≠some k:=fun hv k hk=>by simp at hk;subst hk;exact⟨.inl hT,hv⟩
 exact⟨Kept.below h.bel hk h.bel.size (by simp),h.rn.step hk (t0 (own_blk o2 h.rs (by decide))),h.rh.step hk (t0 (own_blk o3 h.rs (by decide))),h.rr.step hk (t0 (own_blk o1 h.rs (by decide))),h.rm.step hk (t0 (own_blk o4 h.rs (by decide)))⟩
theorem OwnB.reW2 {e:TypeId}{w0 w1 W:World}{B B':Nat}{v:Value}{xs:LI}(h:OwnB intR e w0 B W v xs)(hb:Below w1.heap.size w1 W)(h1:w1.heap.size≤B')(h2:B'≤B):OwnB intR e w1 B' W v xs:=by
 obtain⟨⟨_,_,c⟩,cs,⟨k1,k2⟩,f⟩:=h
 refine⟨⟨hb,h1,Nat.le_trans h2 c⟩,cs,⟨k1,?_⟩,f⟩
 rcases k2 with k2 | ⟨g,cap,cur,e1,e2,e3,e4⟩
 ·exact .inl k2
 ·exact .inr ⟨g,cap,cur,e1,Nat.le_trans h2 e2,e3,e4⟩
theorem RowN.at_ {α:Type}{R:Rep α}{e:TypeId}{T:LN}{B:Nat}{W:World}{xs:List α}{g n cap:Nat}(h:RowN R e T B W (.slice (some ⟨g,0,none⟩) n cap) xs){i j:Nat}{x:α}(hx:xs[i]? = some x)(hj:j<R.size):∃u,W.cell? ⟨g,i*R.size+j,none⟩=some u∧W.frozen? ⟨g,i*R.size+j,none⟩=false:=by
 obtain⟨g',cap',c,ev,_,hcl,hcc,hfz⟩:=RowK.cellAt h hx
 injection ev with e1 e2 e3;injection e1 with e1;injection e1 with e1;subst e1
 exact⟨_,hcc j _ (List.getElem?_eq_getElem (by omega)),hfz _⟩
structure ClR (w X:World)(xs:LG)(x:GRule)(T:LN)(g n cap k gb ge:Nat)(hA:OA)(hl hc:Nat)(bA:OA)(bl bc:Nat)(wA:OA)(wl wc:Nat)(W:World)(b0 b1 b2 b3 b4 b5 b6 b7 b8 b9 b10 b11 b12 b13 b14 b15 b16 b17 b18 b19 b20 b21 b22 b23 b24 b25 b26:Bool)(u31 u32 u33 u34 u35 u36 u37 u38 u39 u40 u41 u42 u43 u44 u45 u46 u47 u48 u49 u50 u51 u52 u53 u54:Value):Prop where
 f0:b0=true→u31=.pointer (some ⟨gb,3,none⟩)
 f1:b1=true→u32=.slice (some ⟨g,0,none⟩) n cap
 f2:b2=true→u33=.int .i64 (k:Int)
 f3:b3=true→u34=.pointer (some ⟨gb,3,none⟩)
 f4:b4=true→u35=.slice (some ⟨g,0,none⟩) n cap
 f5:b5=true→u36=.int .i64 (k:Int)
 f6:b6=true→u37=.pointer (some ⟨gb,3,none⟩)
 f7:b7=true→u38=.slice (some ⟨g,0,none⟩) n cap
 f8:b8=true→u39=.int .i64 (k:Int)
 f9:b9=true→u40=.pointer (some ⟨ge,1,none⟩)
 f10:b10=true→u41=.slice hA hl hc
 f12:b12=true→u43=.pointer (some ⟨ge,4,none⟩)
 f13:b13=true→u44=.slice bA bl bc
 f15:b15=true→u46=.pointer (some ⟨ge,5,none⟩)
 f16:b16=true→u47=.slice wA wl wc
 f18:b18=true→u49=.pointer (some ⟨g,k*6,none⟩)
 f19:b19=true→u50=.pointer (some ⟨g,k*6+1,none⟩)
 f21:b21=true→u51=.pointer (some ⟨g,k*6,none⟩)
 f22:b22=true→u52=.pointer (some ⟨g,k*6+4,none⟩)
 f24:b24=true→u53=.pointer (some ⟨g,k*6,none⟩)
 f25:b25=true→u54=.pointer (some ⟨g,k*6+5,none⟩)
 c11:b11=true→OwnB intR 3 w X.heap.size W u42 x.head
 c14:b14=true→OwnB intR 3 w X.heap.size W u45 x.body
 c17:b17=true→OwnB intR 3 w X.heap.size W u48 x.w
 kp:Kept [g] X W
 row:RowN ruleR 42 T w.heap.size W (.slice (some ⟨g,0,none⟩) n cap) xs
section
variable {w X : World} {xs : LG} {x : GRule} {T : LN} {g n cap k gb ge : Nat} {hA : OA} {hl hc : Nat} {bA : OA} {bl bc : Nat} {wA : OA} {wl wc : Nat} {W : World} {b0 b1 b2 b3 b4 b5 b6 b7 b8 b9 b10 b11 b12 b13 b14 b15 b16 b17 b18 b19 b20 b21 b22 b23 b24 b25 b26 : Bool} {u31 u32 u33 u34 u35 u36 u37 u38 u39 u40 u41 u42 u43 u44 u45 u46 u47 u48 u49 u50 u51 u52 u53 u54 : Value}
theorem ClR.start (hk:Kept [g] X W)(hr:RowN ruleR 42 T w.heap.size W (.slice (some ⟨g,0,none⟩) n cap) xs):ClR w X xs x T g n cap k gb ge hA hl hc bA bl bc wA wl wc W false false false false false false false false false false false false false false false false false false false false false false false false false false false u31 u32 u33 u34 u35 u36 u37 u38 u39 u40 u41 u42 u43 u44 u45 u46 u47 u48 u49 u50 u51 u52 u53 u54:=
 ⟨by simp,by simp,by simp,by simp,by simp,by simp,by simp,by simp,by simp,by simp,by simp,by simp,by simp,by simp,by simp,by simp,by simp,by simp,by simp,by simp,by simp,by simp,by simp,by simp,hk,hr⟩
theorem ClR.call11 (h:ClR w X xs x T g n cap k gb ge hA hl hc bA bl bc wA wl wc W b0 b1 b2 b3 b4 b5 b6 b7 b8 b9 b10 false b12 b13 b14 b15 b16 b17 b18 b19 b20 b21 b22 b23 b24 b25 b26 u31 u32 u33 u34 u35 u36 u37 u38 u39 u40 u41 u42 u43 u44 u45 u46 u47 u48 u49 u50 u51 u52 u53 u54){W':World}(hb:Below W.heap.size W W'){u':Value}(hu:OwnB intR 3 w X.heap.size W' u' x.head):ClR w X xs x T g n cap k gb ge hA hl hc bA bl bc wA wl wc W' b0 b1 b2 b3 b4 b5 b6 b7 b8 b9 b10 true b12 b13 b14 b15 b16 b17 b18 b19 b20 b21 b22 b23 b24 b25 b26 u31 u32 u33 u34 u35 u36 u37 u38 u39 u40 u41 u' u43 u44 u45 u46 u47 u48 u49 u50 u51 u52 u53 u54:=
 { h with c11:=fun _=>hu,c14:=fun e=>(h.c14 e).bel hb,c17:=fun e=>(h.c17 e).bel hb,kp:=h.kp.bel hb,row:=h.row.bel hb }
theorem ClR.store20 (h:ClR w X xs x T g n cap k gb ge hA hl hc bA bl bc wA wl wc W b0 b1 b2 b3 b4 b5 b6 b7 b8 b9 b10 true b12 b13 b14 b15 b16 b17 b18 b19 false b21 b22 b23 b24 b25 b26 u31 u32 u33 u34 u35 u36 u37 u38 u39 u40 u41 u42 u43 u44 u45 u46 u47 u48 u49 u50 u51 u52 u53 u54)(hx:xs[k]? = some x)(hT:∀q∈T,q<X.heap.size)(hw:w.heap.size≤g)(hg:g<X.heap.size)(hlen:x.head.length≤1000000):∃A l c,u42=.slice A l c∧ClR w X xs x T g n cap k gb ge hA hl hc bA bl bc wA wl wc (W.setCell ⟨g,k*ruleR.size+1,none⟩ u42) b0 b1 b2 b3 b4 b5 b6 b7 b8 b9 b10 true b12 b13 b14 b15 b16 b17 b18 b19 true b21 b22 b23 b24 b25 b26 u31 u32 u33 u34 u35 u36 u37 u38 u39 u40 u41 u42 u43 u44 u45 u46 u47 u48 u49 u50 u51 u52 u53 u54:=by
 have hc:=h.c11 rfl
 obtain⟨A,l,c,rfl⟩:=hc.form
 refine⟨A,l,c,rfl,{ h with c11:=fun e=>(h.c11 e).set (p:=⟨g,k*ruleR.size+1,none⟩) hw hg _,c14:=fun e=>(h.c14 e).set (p:=⟨g,k*ruleR.size+1,none⟩) hw hg _,c17:=fun e=>(h.c17 e).set (p:=⟨g,k*ruleR.size+1,none⟩) hw hg _,kp:=h.kp.set (.inl (by simp)) _,row:=?_ }⟩
 have:=h.row.put hx (j:=1) (by decide) (.slice A l c) (x':=x) (fun c0 h0 _=>Stab.head h0 (hc.stabI hlen hT))
 rwa [set_same hx]at this
theorem ClR.call14 (h:ClR w X xs x T g n cap k gb ge hA hl hc bA bl bc wA wl wc W b0 b1 b2 b3 b4 b5 b6 b7 b8 b9 b10 b11 b12 b13 false b15 b16 b17 b18 b19 b20 b21 b22 b23 b24 b25 b26 u31 u32 u33 u34 u35 u36 u37 u38 u39 u40 u41 u42 u43 u44 u45 u46 u47 u48 u49 u50 u51 u52 u53 u54){W':World}(hb:Below W.heap.size W W'){u':Value}(hu:OwnB intR 3 w X.heap.size W' u' x.body):ClR w X xs x T g n cap k gb ge hA hl hc bA bl bc wA wl wc W' b0 b1 b2 b3 b4 b5 b6 b7 b8 b9 b10 b11 b12 b13 true b15 b16 b17 b18 b19 b20 b21 b22 b23 b24 b25 b26 u31 u32 u33 u34 u35 u36 u37 u38 u39 u40 u41 u42 u43 u44 u' u46 u47 u48 u49 u50 u51 u52 u53 u54:=
 { h with c14:=fun _=>hu,c11:=fun e=>(h.c11 e).bel hb,c17:=fun e=>(h.c17 e).bel hb,kp:=h.kp.bel hb,row:=h.row.bel hb }
theorem ClR.store23 (h:ClR w X xs x T g n cap k gb ge hA hl hc bA bl bc wA wl wc W b0 b1 b2 b3 b4 b5 b6 b7 b8 b9 b10 b11 b12 b13 true b15 b16 b17 b18 b19 b20 b21 b22 false b24 b25 b26 u31 u32 u33 u34 u35 u36 u37 u38 u39 u40 u41 u42 u43 u44 u45 u46 u47 u48 u49 u50 u51 u52 u53 u54)(hx:xs[k]? = some x)(hT:∀q∈T,q<X.heap.size)(hw:w.heap.size≤g)(hg:g<X.heap.size)(hlen:x.body.length≤1000000):∃A l c,u45=.slice A l c∧ClR w X xs x T g n cap k gb ge hA hl hc bA bl bc wA wl wc (W.setCell ⟨g,k*ruleR.size+4,none⟩ u45) b0 b1 b2 b3 b4 b5 b6 b7 b8 b9 b10 b11 b12 b13 true b15 b16 b17 b18 b19 b20 b21 b22 true b24 b25 b26 u31 u32 u33 u34 u35 u36 u37 u38 u39 u40 u41 u42 u43 u44 u45 u46 u47 u48 u49 u50 u51 u52 u53 u54:=by
 have hc:=h.c14 rfl
 obtain⟨A,l,c,rfl⟩:=hc.form
 refine⟨A,l,c,rfl,{ h with c11:=fun e=>(h.c11 e).set (p:=⟨g,k*ruleR.size+4,none⟩) hw hg _,c14:=fun e=>(h.c14 e).set (p:=⟨g,k*ruleR.size+4,none⟩) hw hg _,c17:=fun e=>(h.c17 e).set (p:=⟨g,k*ruleR.size+4,none⟩) hw hg _,kp:=h.kp.set (.inl (by simp)) _,row:=?_ }⟩
 have:=h.row.put hx (j:=4) (by decide) (.slice A l c) (x':=x) (fun c0 h0 _=>Stab.body h0 (hc.stabI hlen hT))
 rwa [set_same hx]at this
theorem ClR.call17 (h:ClR w X xs x T g n cap k gb ge hA hl hc bA bl bc wA wl wc W b0 b1 b2 b3 b4 b5 b6 b7 b8 b9 b10 b11 b12 b13 b14 b15 b16 false b18 b19 b20 b21 b22 b23 b24 b25 b26 u31 u32 u33 u34 u35 u36 u37 u38 u39 u40 u41 u42 u43 u44 u45 u46 u47 u48 u49 u50 u51 u52 u53 u54){W':World}(hb:Below W.heap.size W W'){u':Value}(hu:OwnB intR 3 w X.heap.size W' u' x.w):ClR w X xs x T g n cap k gb ge hA hl hc bA bl bc wA wl wc W' b0 b1 b2 b3 b4 b5 b6 b7 b8 b9 b10 b11 b12 b13 b14 b15 b16 true b18 b19 b20 b21 b22 b23 b24 b25 b26 u31 u32 u33 u34 u35 u36 u37 u38 u39 u40 u41 u42 u43 u44 u45 u46 u47 u' u49 u50 u51 u52 u53 u54:=
 { h with c17:=fun _=>hu,c11:=fun e=>(h.c11 e).bel hb,c14:=fun e=>(h.c14 e).bel hb,kp:=h.kp.bel hb,row:=h.row.bel hb }
theorem ClR.store26 (h:ClR w X xs x T g n cap k gb ge hA hl hc bA bl bc wA wl wc W b0 b1 b2 b3 b4 b5 b6 b7 b8 b9 b10 b11 b12 b13 b14 b15 b16 true b18 b19 b20 b21 b22 b23 b24 b25 false u31 u32 u33 u34 u35 u36 u37 u38 u39 u40 u41 u42 u43 u44 u45 u46 u47 u48 u49 u50 u51 u52 u53 u54)(hx:xs[k]? = some x)(hT:∀q∈T,q<X.heap.size)(hw:w.heap.size≤g)(hg:g<X.heap.size)(hlen:x.w.length≤1000000):∃A l c,u48=.slice A l c∧ClR w X xs x T g n cap k gb ge hA hl hc bA bl bc wA wl wc (W.setCell ⟨g,k*ruleR.size+5,none⟩ u48) b0 b1 b2 b3 b4 b5 b6 b7 b8 b9 b10 b11 b12 b13 b14 b15 b16 true b18 b19 b20 b21 b22 b23 b24 b25 true u31 u32 u33 u34 u35 u36 u37 u38 u39 u40 u41 u42 u43 u44 u45 u46 u47 u48 u49 u50 u51 u52 u53 u54:=by
 have hc:=h.c17 rfl
 obtain⟨A,l,c,rfl⟩:=hc.form
 refine⟨A,l,c,rfl,{ h with c11:=fun e=>(h.c11 e).set (p:=⟨g,k*ruleR.size+5,none⟩) hw hg _,c14:=fun e=>(h.c14 e).set (p:=⟨g,k*ruleR.size+5,none⟩) hw hg _,c17:=fun e=>(h.c17 e).set (p:=⟨g,k*ruleR.size+5,none⟩) hw hg _,kp:=h.kp.set (.inl (by simp)) _,row:=?_ }⟩
 have:=h.row.put hx (j:=5) (by decide) (.slice A l c) (x':=x) (fun c0 h0 _=>Stab.wt h0 (hc.stabI hlen hT))
 rwa [set_same hx]at this
end
structure ClM (w X:World)(xs:List GMin)(x:GMin)(T:LN)(g n cap k gb ge:Nat)(hA:OA)(hl hc:Nat)(bA:OA)(bl bc:Nat)(W:World)(b0 b1 b2 b3 b4 b5 b6 b7 b8 b9 b10 b11 b12 b13 b14 b15 b16 b17:Bool)(u64 u65 u66 u67 u68 u69 u70 u71 u72 u73 u74 u75 u76 u77 u78 u79:Value):Prop where
 f0:b0=true→u64=.pointer (some ⟨gb,4,none⟩)
 f1:b1=true→u65=.slice (some ⟨g,0,none⟩) n cap
 f2:b2=true→u66=.int .i64 (k:Int)
 f3:b3=true→u67=.pointer (some ⟨gb,4,none⟩)
 f4:b4=true→u68=.slice (some ⟨g,0,none⟩) n cap
 f5:b5=true→u69=.int .i64 (k:Int)
 f6:b6=true→u70=.pointer (some ⟨ge,1,none⟩)
 f7:b7=true→u71=.slice hA hl hc
 f9:b9=true→u73=.pointer (some ⟨ge,2,none⟩)
 f10:b10=true→u74=.slice bA bl bc
 f12:b12=true→u76=.pointer (some ⟨g,k*3,none⟩)
 f13:b13=true→u77=.pointer (some ⟨g,k*3+1,none⟩)
 f15:b15=true→u78=.pointer (some ⟨g,k*3,none⟩)
 f16:b16=true→u79=.pointer (some ⟨g,k*3+2,none⟩)
 c8:b8=true→OwnB intR 3 w X.heap.size W u72 x.lits
 c11:b11=true→OwnB intR 3 w X.heap.size W u75 x.w
 kp:Kept [g] X W
 row:RowN minR 67 T w.heap.size W (.slice (some ⟨g,0,none⟩) n cap) xs
section
variable {w X : World} {xs : List GMin} {x : GMin} {T : LN} {g n cap k gb ge : Nat} {hA : OA} {hl hc : Nat} {bA : OA} {bl bc : Nat} {W : World} {b0 b1 b2 b3 b4 b5 b6 b7 b8 b9 b10 b11 b12 b13 b14 b15 b16 b17 : Bool} {u64 u65 u66 u67 u68 u69 u70 u71 u72 u73 u74 u75 u76 u77 u78 u79 : Value}
theorem ClM.start (hk:Kept [g] X W)(hr:RowN minR 67 T w.heap.size W (.slice (some ⟨g,0,none⟩) n cap) xs):ClM w X xs x T g n cap k gb ge hA hl hc bA bl bc W false false false false false false false false false false false false false false false false false false u64 u65 u66 u67 u68 u69 u70 u71 u72 u73 u74 u75 u76 u77 u78 u79:=
 ⟨by simp,by simp,by simp,by simp,by simp,by simp,by simp,by simp,by simp,by simp,by simp,by simp,by simp,by simp,by simp,by simp,hk,hr⟩
theorem ClM.call8 (h:ClM w X xs x T g n cap k gb ge hA hl hc bA bl bc W b0 b1 b2 b3 b4 b5 b6 b7 false b9 b10 b11 b12 b13 b14 b15 b16 b17 u64 u65 u66 u67 u68 u69 u70 u71 u72 u73 u74 u75 u76 u77 u78 u79){W':World}(hb:Below W.heap.size W W'){u':Value}(hu:OwnB intR 3 w X.heap.size W' u' x.lits):ClM w X xs x T g n cap k gb ge hA hl hc bA bl bc W' b0 b1 b2 b3 b4 b5 b6 b7 true b9 b10 b11 b12 b13 b14 b15 b16 b17 u64 u65 u66 u67 u68 u69 u70 u71 u' u73 u74 u75 u76 u77 u78 u79:=
 { h with c8:=fun _=>hu,c11:=fun e=>(h.c11 e).bel hb,kp:=h.kp.bel hb,row:=h.row.bel hb }
theorem ClM.store14 (h:ClM w X xs x T g n cap k gb ge hA hl hc bA bl bc W b0 b1 b2 b3 b4 b5 b6 b7 true b9 b10 b11 b12 b13 false b15 b16 b17 u64 u65 u66 u67 u68 u69 u70 u71 u72 u73 u74 u75 u76 u77 u78 u79)(hx:xs[k]? = some x)(hT:∀q∈T,q<X.heap.size)(hw:w.heap.size≤g)(hg:g<X.heap.size)(hlen:x.lits.length≤1000000):∃A l c,u72=.slice A l c∧ClM w X xs x T g n cap k gb ge hA hl hc bA bl bc (W.setCell ⟨g,k*minR.size+1,none⟩ u72) b0 b1 b2 b3 b4 b5 b6 b7 true b9 b10 b11 b12 b13 true b15 b16 b17 u64 u65 u66 u67 u68 u69 u70 u71 u72 u73 u74 u75 u76 u77 u78 u79:=by
 have hc:=h.c8 rfl
 obtain⟨A,l,c,rfl⟩:=hc.form
 refine⟨A,l,c,rfl,{ h with c8:=fun e=>(h.c8 e).set (p:=⟨g,k*minR.size+1,none⟩) hw hg _,c11:=fun e=>(h.c11 e).set (p:=⟨g,k*minR.size+1,none⟩) hw hg _,kp:=h.kp.set (.inl (by simp)) _,row:=?_ }⟩
 have:=h.row.put hx (j:=1) (by decide) (.slice A l c) (x':=x) (fun c0 h0 _=>Stab.lits h0 (hc.stabI hlen hT))
 rwa [set_same hx]at this
theorem ClM.call11 (h:ClM w X xs x T g n cap k gb ge hA hl hc bA bl bc W b0 b1 b2 b3 b4 b5 b6 b7 b8 b9 b10 false b12 b13 b14 b15 b16 b17 u64 u65 u66 u67 u68 u69 u70 u71 u72 u73 u74 u75 u76 u77 u78 u79){W':World}(hb:Below W.heap.size W W'){u':Value}(hu:OwnB intR 3 w X.heap.size W' u' x.w):ClM w X xs x T g n cap k gb ge hA hl hc bA bl bc W' b0 b1 b2 b3 b4 b5 b6 b7 b8 b9 b10 true b12 b13 b14 b15 b16 b17 u64 u65 u66 u67 u68 u69 u70 u71 u72 u73 u74 u' u76 u77 u78 u79:=
 { h with c11:=fun _=>hu,c8:=fun e=>(h.c8 e).bel hb,kp:=h.kp.bel hb,row:=h.row.bel hb }
theorem ClM.store17 (h:ClM w X xs x T g n cap k gb ge hA hl hc bA bl bc W b0 b1 b2 b3 b4 b5 b6 b7 b8 b9 b10 true b12 b13 b14 b15 b16 false u64 u65 u66 u67 u68 u69 u70 u71 u72 u73 u74 u75 u76 u77 u78 u79)(hx:xs[k]? = some x)(hT:∀q∈T,q<X.heap.size)(hw:w.heap.size≤g)(hg:g<X.heap.size)(hlen:x.w.length≤1000000):∃A l c,u75=.slice A l c∧ClM w X xs x T g n cap k gb ge hA hl hc bA bl bc (W.setCell ⟨g,k*minR.size+2,none⟩ u75) b0 b1 b2 b3 b4 b5 b6 b7 b8 b9 b10 true b12 b13 b14 b15 b16 true u64 u65 u66 u67 u68 u69 u70 u71 u72 u73 u74 u75 u76 u77 u78 u79:=by
 have hc:=h.c11 rfl
 obtain⟨A,l,c,rfl⟩:=hc.form
 refine⟨A,l,c,rfl,{ h with c8:=fun e=>(h.c8 e).set (p:=⟨g,k*minR.size+2,none⟩) hw hg _,c11:=fun e=>(h.c11 e).set (p:=⟨g,k*minR.size+2,none⟩) hw hg _,kp:=h.kp.set (.inl (by simp)) _,row:=?_ }⟩
 have:=h.row.put hx (j:=2) (by decide) (.slice A l c) (x':=x) (fun c0 h0 _=>Stab.mwt h0 (hc.stabI hlen hT))
 rwa [set_same hx]at this
end
theorem gclone_any (p:GProg)(nA:OA)(nl nc:Nat)(sA:OA)(sl sc:Nat)(rA:OA)(rl rc:Nat)(mA:OA)(ml mc:Nat)(v0 w:World)(hb0:Below v0.heap.size v0 w)(E:LN)(hE:∀q∈E,v0.heap.size≤q∧q<w.heap.size)(hp:ProgIn v0 p nA nl nc sA sl sc rA rl rc mA ml mc)(hn:nl≤100000)(hs:sl≤100000)(hr:rl≤100000)(hm:ml≤100000)(hrl9:∀r∈p.rules,r.head.length≤100000∧r.body.length≤100000∧r.w.length≤100000)(hml9:∀r∈p.min,r.lits.length≤100000∧r.w.length≤100000):
  Calls Tryz.prog 68 #[.agg #[.int .i64 p.n,.slice nA nl nc,.slice sA sl sc,.slice rA rl rc,.slice mA ml mc]] w fun e w'=>∃(nA':OA) (nc':Nat) (sA':OA) (sc':Nat) (rA':OA) (rc':Nat) (mA':OA) (mc':Nat) (T:LN),e=.returned (.agg #[.int .i64 p.n,.slice nA' nl nc',.slice sA' sl sc',.slice rA' rl rc',.slice mA' ml mc'])∧Below w.heap.size w w'∧(∀q∈T,v0.heap.size≤q∧q<w'.heap.size)∧(∀q∈E,q∈T) ∧
   RowN strR 9 T w.heap.size w' (.slice nA' nl nc') p.names∧RowN intR 3 T w.heap.size w' (.slice sA' sl sc') p.shown∧RowN ruleR 42 T w.heap.size w' (.slice rA' rl rc') p.rules∧RowN minR 67 T w.heap.size w' (.slice mA' ml mc') p.min:=by
 obtain⟨HP,HB0,HE⟩:=Zq3 hp hb0 hE;clear hp hb0 hE
 go_enter Tryz.func68,Tryz.ntmps68;go_wp2_with fail;have hq:=(Blk.new w 27 #[.int .i64 p.n,.slice nA nl nc,.slice sA sl sc,.slice rA rl rc,.slice mA ml mc]).alloc (.cells #[.int .i64 0,.slice none 0 0,.slice none 0 0,.slice none 0 0,.slice none 0 0] 27);have hz:=blk_new (g:=w.heap.size+1) (w:=w.alloc (.cells #[.int .i64 p.n,.slice nA nl nc,.slice sA sl sc,.slice rA rl rc,.slice mA ml mc] 27)) (by simp) 27 #[.int .i64 0,.slice none 0 0,.slice none 0 0,.slice none 0 0,.slice none 0 0];have hbx:=bel_trans (bel_alloc w (.cells #[.int .i64 p.n,.slice nA nl nc,.slice sA sl sc,.slice rA rl rc,.slice mA ml mc] 27)) (bel_alloc _ (.cells #[.int .i64 0,.slice none 0 0,.slice none 0 0,.slice none 0 0,.slice none 0 0] 27));have hgX:w.heap.size<((w.alloc (.cells #[.int .i64 p.n,.slice nA nl nc,.slice sA sl sc,.slice rA rl rc,.slice mA ml mc] 27)).alloc (.cells #[.int .i64 0,.slice none 0 0,.slice none 0 0,.slice none 0 0,.slice none 0 0] 27)).heap.size:=by simp;omega
 generalize (w.alloc (.cells #[.int .i64 p.n,.slice nA nl nc,.slice sA sl sc,.slice rA rl rc,.slice mA ml mc] 27)).alloc (.cells #[.int .i64 0,.slice none 0 0,.slice none 0 0,.slice none 0 0,.slice none 0 0] 27)=X at *
 obtain⟨HQ,HZ,HBX⟩:=Zq3 hq hz hbx;clear hq hz hbx
 refine wp_region_inv (fun listed a' w'=>∃(b0 b1 b2 b3 b4 b5 b6 b7 b8 b9 b10 b11 b12 b13 b14 b15 b16 b17 b18 b19:Bool) (u7 u8 u9 u10 u11 u12 u13 u14 u15 u16 u17 u18 u19 u20 u21 u22:Value),listed=#[b0,b1,b2,b3,b4,b5,b6,b7,b8,b9,b10,b11,b12,b13,b14,b15,b16,b17,b18,b19]∧a'={ tmps:=#[.agg #[.int .i64 p.n,.slice nA nl nc,.slice sA sl sc,.slice rA rl rc,.slice mA ml mc],.pointer (some ⟨w.heap.size,0,none⟩),.pointer (some ⟨w.heap.size+1,0,none⟩),undef,undef,undef,undef,u7,u8,u9,u10,u11,u12,u13,u14,u15,u16,u17,u18,u19,u20,u21,u22,undef,undef,undef,undef,undef,undef,undef,undef,undef,undef,undef,undef,undef,undef,undef,undef,undef,undef,undef,undef,undef,undef,undef,undef,undef,undef,undef,undef,undef,undef,undef,undef,undef,undef,undef,undef,undef,undef,undef,undef,undef,undef,undef,undef,undef,undef,undef,undef,undef,undef,undef,undef,undef,undef,undef,undef,undef,undef,undef],defers:=[] }∧ClnJ v0 w X p nA nl nc sA sl sc rA rl rc mA ml mc w' b0 b1 b2 b3 b4 b5 b6 b7 b8 b9 b10 b11 b12 b13 b14 b15 b16 b17 b18 b19 u7 u8 u9 u10 u11 u12 u13 u14 u15 u16 u17 u18 u19 u20 u21 u22) (by kernel_rfl) ?start ?step ?fin
 case start=>exact⟨false,false,false,false,false,false,false,false,false,false,false,false,false,false,false,false,false,false,false,false,_,_,_,_,_,_,_,_,_,_,_,_,_,_,_,_,rfl,rfl,ClnJ.start (Kept.refl _ _).drew HQ.out⟩
 case step=>
  rintro listed a' w' i o ⟨b0,b1,b2,b3,b4,b5,b6,b7,b8,b9,b10,b11,b12,b13,b14,b15,b16,b17,b18,b19,u7,u8,u9,u10,u11,u12,u13,u14,u15,u16,u17,u18,u19,u20,u21,u22,rfl,rfl,h⟩ ho hli hd K hK;have Zqx:=fun i h=>hd ⟨i,.data⟩ h rfl
  match i,ho,hli,hd with
  |0,ho,hli,hd=>obtain⟨rfl,rfl⟩:_∧b0=false:=Zqj ho hli;go_simp;exact hK _ _ ⟨_,_,_,_,_,_,_,_,_,_,_,_,_,_,_,_,_,_,_,_,_,_,_,_,_,_,_,_,_,_,_,_,_,_,_,_,rfl,rfl,{ h with f0:=fun _=>rfl }⟩
  |1,ho,hli,hd=>obtain⟨rfl,rfl⟩:_∧b1=false:=Zqj ho hli;obtain rfl:b0=true:=Zqx 0 (by simp);obtain rfl:=h.f0 rfl;have c0:=h.cell1;go_simp;exact hK _ _ ⟨_,_,_,_,_,_,_,_,_,_,_,_,_,_,_,_,_,_,_,_,_,_,_,_,_,_,_,_,_,_,_,_,_,_,_,_,rfl,rfl,{ h with f1:=fun _=>rfl,d2:=fun _=>rfl }⟩
  |2,ho,hli,hd=>
   obtain⟨rfl,rfl⟩:_∧b2=false:=Zqj ho hli;obtain rfl:b1=true:=Zqx 1 (by simp);obtain rfl:=h.f1 rfl;have hbw:=Kept.below HBX.out h.kp HBX.out.size (by simp);go_simp
   refine(cloneS_own _ _ _ _ v0 _ HP.out.names (bel_trans HB0.out hbw) (by omega)).mono ?_
   rintro e v ⟨A,l,c,rfl,hu,-,hb⟩;exact hK _ _ ⟨_,_,_,_,_,_,_,_,_,_,_,_,_,_,_,_,_,_,_,_,_,_,_,_,_,_,_,_,_,_,_,_,_,_,_,_,rfl,rfl,h.call2 hb (hu.mono (Nat.le_trans HB0.out.size HBX.out.size) h.kp.size)⟩
  |3,ho,hli,hd=>obtain⟨rfl,rfl⟩:_∧b3=false:=Zqj ho hli;go_simp;exact hK _ _ ⟨_,_,_,_,_,_,_,_,_,_,_,_,_,_,_,_,_,_,_,_,_,_,_,_,_,_,_,_,_,_,_,_,_,_,_,_,rfl,rfl,{ h with f3:=fun _=>rfl }⟩
  |4,ho,hli,hd=>obtain⟨rfl,rfl⟩:_∧b4=false:=Zqj ho hli;obtain rfl:b3=true:=Zqx 3 (by simp);obtain rfl:=h.f3 rfl;have c0:=h.cell2;go_simp;exact hK _ _ ⟨_,_,_,_,_,_,_,_,_,_,_,_,_,_,_,_,_,_,_,_,_,_,_,_,_,_,_,_,_,_,_,_,_,_,_,_,rfl,rfl,{ h with f4:=fun _=>rfl,d5:=fun _=>rfl }⟩
  |5,ho,hli,hd=>
   obtain⟨rfl,rfl⟩:_∧b5=false:=Zqj ho hli;obtain rfl:b4=true:=Zqx 4 (by simp);obtain rfl:=h.f4 rfl;have hbw:=Kept.below HBX.out h.kp HBX.out.size (by simp);go_simp
   refine(cloneI_own _ _ _ _ v0 _ HP.out.shown (bel_trans HB0.out hbw) (by omega)).mono ?_
   rintro e v ⟨A,l,c,rfl,hu,-,hb⟩;exact hK _ _ ⟨_,_,_,_,_,_,_,_,_,_,_,_,_,_,_,_,_,_,_,_,_,_,_,_,_,_,_,_,_,_,_,_,_,_,_,_,rfl,rfl,h.call5 hb (hu.mono (Nat.le_trans HB0.out.size HBX.out.size) h.kp.size)⟩
  |6,ho,hli,hd=>obtain⟨rfl,rfl⟩:_∧b6=false:=Zqj ho hli;go_simp;exact hK _ _ ⟨_,_,_,_,_,_,_,_,_,_,_,_,_,_,_,_,_,_,_,_,_,_,_,_,_,_,_,_,_,_,_,_,_,_,_,_,rfl,rfl,{ h with f6:=fun _=>rfl }⟩
  |7,ho,hli,hd=>obtain⟨rfl,rfl⟩:_∧b7=false:=Zqj ho hli;obtain rfl:b6=true:=Zqx 6 (by simp);obtain rfl:=h.f6 rfl;have c0:=h.cell3;go_simp;exact hK _ _ ⟨_,_,_,_,_,_,_,_,_,_,_,_,_,_,_,_,_,_,_,_,_,_,_,_,_,_,_,_,_,_,_,_,_,_,_,_,rfl,rfl,{ h with f7:=fun _=>rfl,d8:=fun _=>rfl }⟩
  |8,ho,hli,hd=>
   obtain⟨rfl,rfl⟩:_∧b8=false:=Zqj ho hli;obtain rfl:b7=true:=Zqx 7 (by simp);obtain rfl:=h.f7 rfl;have hbw:=Kept.below HBX.out h.kp HBX.out.size (by simp);go_simp
   refine(cloneR_own _ _ _ _ v0 _ HP.out.rules (bel_trans HB0.out hbw) (by omega)).mono ?_
   rintro e v ⟨A,l,c,rfl,hu,-,hb⟩;exact hK _ _ ⟨_,_,_,_,_,_,_,_,_,_,_,_,_,_,_,_,_,_,_,_,_,_,_,_,_,_,_,_,_,_,_,_,_,_,_,_,rfl,rfl,h.call8 hb (hu.mono (Nat.le_trans HB0.out.size HBX.out.size) h.kp.size)⟩
  |9,ho,hli,hd=>obtain⟨rfl,rfl⟩:_∧b9=false:=Zqj ho hli;go_simp;exact hK _ _ ⟨_,_,_,_,_,_,_,_,_,_,_,_,_,_,_,_,_,_,_,_,_,_,_,_,_,_,_,_,_,_,_,_,_,_,_,_,rfl,rfl,{ h with f9:=fun _=>rfl }⟩
  |10,ho,hli,hd=>obtain⟨rfl,rfl⟩:_∧b10=false:=Zqj ho hli;obtain rfl:b9=true:=Zqx 9 (by simp);obtain rfl:=h.f9 rfl;have c0:=h.cell4;go_simp;exact hK _ _ ⟨_,_,_,_,_,_,_,_,_,_,_,_,_,_,_,_,_,_,_,_,_,_,_,_,_,_,_,_,_,_,_,_,_,_,_,_,rfl,rfl,{ h with f10:=fun _=>rfl,d11:=fun _=>rfl }⟩
  |11,ho,hli,hd=>
   obtain⟨rfl,rfl⟩:_∧b11=false:=Zqj ho hli;obtain rfl:b10=true:=Zqx 10 (by simp);obtain rfl:=h.f10 rfl;have hbw:=Kept.below HBX.out h.kp HBX.out.size (by simp);go_simp
   refine(cloneM_own _ _ _ _ v0 _ HP.out.min (bel_trans HB0.out hbw) (by omega)).mono ?_
   rintro e v ⟨A,l,c,rfl,hu,-,hb⟩;exact hK _ _ ⟨_,_,_,_,_,_,_,_,_,_,_,_,_,_,_,_,_,_,_,_,_,_,_,_,_,_,_,_,_,_,_,_,_,_,_,_,rfl,rfl,h.call11 hb (hu.mono (Nat.le_trans HB0.out.size HBX.out.size) h.kp.size)⟩
  |12,ho,hli,hd=>obtain⟨rfl,rfl⟩:_∧b12=false:=Zqj ho hli;go_simp;exact hK _ _ ⟨_,_,_,_,_,_,_,_,_,_,_,_,_,_,_,_,_,_,_,_,_,_,_,_,_,_,_,_,_,_,_,_,_,_,_,_,rfl,rfl,{ h with f12:=fun _=>rfl }⟩
  |13,ho,hli,hd=>
   obtain⟨rfl,rfl⟩:_∧b13=false:=Zqj ho hli;obtain rfl:b12=true:=Zqx 12 (by simp);obtain rfl:b2=true:=Zqx 2 (by simp);obtain rfl:=h.f12 rfl
   obtain⟨A,l,c,rfl⟩:=(h.c2 rfl).form
   have k0:=h.bx.cell 1;have k1:=h.bx.frozen 1;go_simp;exact hK _ _ ⟨_,_,_,_,_,_,_,_,_,_,_,_,_,_,_,_,_,_,_,_,_,_,_,_,_,_,_,_,_,_,_,_,_,_,_,_,rfl,rfl,h.store13 HB0.out.size hgX⟩
  |14,ho,hli,hd=>obtain⟨rfl,rfl⟩:_∧b14=false:=Zqj ho hli;go_simp;exact hK _ _ ⟨_,_,_,_,_,_,_,_,_,_,_,_,_,_,_,_,_,_,_,_,_,_,_,_,_,_,_,_,_,_,_,_,_,_,_,_,rfl,rfl,{ h with f14:=fun _=>rfl }⟩
  |15,ho,hli,hd=>
   obtain⟨rfl,rfl⟩:_∧b15=false:=Zqj ho hli;obtain rfl:b14=true:=Zqx 14 (by simp);obtain rfl:b5=true:=Zqx 5 (by simp);obtain rfl:=h.f14 rfl
   obtain⟨A,l,c,rfl⟩:=(h.c5 rfl).form
   have k0:=h.bx.cell 2;have k1:=h.bx.frozen 2;go_simp;exact hK _ _ ⟨_,_,_,_,_,_,_,_,_,_,_,_,_,_,_,_,_,_,_,_,_,_,_,_,_,_,_,_,_,_,_,_,_,_,_,_,rfl,rfl,h.store15 HB0.out.size hgX⟩
  |16,ho,hli,hd=>obtain⟨rfl,rfl⟩:_∧b16=false:=Zqj ho hli;go_simp;exact hK _ _ ⟨_,_,_,_,_,_,_,_,_,_,_,_,_,_,_,_,_,_,_,_,_,_,_,_,_,_,_,_,_,_,_,_,_,_,_,_,rfl,rfl,{ h with f16:=fun _=>rfl }⟩
  |17,ho,hli,hd=>
   obtain⟨rfl,rfl⟩:_∧b17=false:=Zqj ho hli;obtain rfl:b16=true:=Zqx 16 (by simp);obtain rfl:b8=true:=Zqx 8 (by simp);obtain rfl:=h.f16 rfl
   obtain⟨A,l,c,rfl⟩:=(h.c8 rfl).form
   have k0:=h.bx.cell 3;have k1:=h.bx.frozen 3;go_simp;exact hK _ _ ⟨_,_,_,_,_,_,_,_,_,_,_,_,_,_,_,_,_,_,_,_,_,_,_,_,_,_,_,_,_,_,_,_,_,_,_,_,rfl,rfl,h.store17 HB0.out.size hgX⟩
  |18,ho,hli,hd=>obtain⟨rfl,rfl⟩:_∧b18=false:=Zqj ho hli;go_simp;exact hK _ _ ⟨_,_,_,_,_,_,_,_,_,_,_,_,_,_,_,_,_,_,_,_,_,_,_,_,_,_,_,_,_,_,_,_,_,_,_,_,rfl,rfl,{ h with f18:=fun _=>rfl }⟩
  |19,ho,hli,hd=>
   obtain⟨rfl,rfl⟩:_∧b19=false:=Zqj ho hli;obtain rfl:b18=true:=Zqx 18 (by simp);obtain rfl:b11=true:=Zqx 11 (by simp);obtain rfl:=h.f18 rfl
   obtain⟨A,l,c,rfl⟩:=(h.c11 rfl).form
   have k0:=h.bx.cell 4;have k1:=h.bx.frozen 4;go_simp;exact hK _ _ ⟨_,_,_,_,_,_,_,_,_,_,_,_,_,_,_,_,_,_,_,_,_,_,_,_,_,_,_,_,_,_,_,_,_,_,_,_,rfl,rfl,h.store19 HB0.out.size hgX⟩
  |i+20,ho,hli,hd=>simp at ho
 case fin=>
  rintro listed a' w' ⟨b0,b1,b2,b3,b4,b5,b6,b7,b8,b9,b10,b11,b12,b13,b14,b15,b16,b17,b18,b19,u7,u8,u9,u10,u11,u12,u13,u14,u15,u16,u17,u18,u19,u20,u21,u22,rfl,rfl,h⟩ hr;obtain rfl:b0=true:=Zqn hr 0 rfl;obtain rfl:b1=true:=Zqn hr 1 rfl;obtain rfl:b2=true:=Zqn hr 2 rfl;obtain rfl:b3=true:=Zqn hr 3 rfl;obtain rfl:b4=true:=Zqn hr 4 rfl;obtain rfl:b5=true:=Zqn hr 5 rfl;obtain rfl:b6=true:=Zqn hr 6 rfl;obtain rfl:b7=true:=Zqn hr 7 rfl;obtain rfl:b8=true:=Zqn hr 8 rfl;obtain rfl:b9=true:=Zqn hr 9 rfl;obtain rfl:b10=true:=Zqn hr 10 rfl;obtain rfl:b11=true:=Zqn hr 11 rfl;obtain rfl:b12=true:=Zqn hr 12 rfl;obtain rfl:b13=true:=Zqn hr 13 rfl;obtain rfl:b14=true:=Zqn hr 14 rfl;obtain rfl:b15=true:=Zqn hr 15 rfl;obtain rfl:b16=true:=Zqn hr 16 rfl;obtain rfl:b17=true:=Zqn hr 17 rfl;obtain rfl:b18=true:=Zqn hr 18 rfl;obtain rfl:b19=true:=Zqn hr 19 rfl;clear hr;have o2:=(h.c2 rfl).mono HB0.out.size HBX.out.size;have o5:=(h.c5 rfl).mono HB0.out.size HBX.out.size;have o8:=(h.c8 rfl).mono HB0.out.size HBX.out.size;have o11:=(h.c11 rfl).mono HB0.out.size HBX.out.size;have hbox:=h.bx;simp only[sel,if_true]at hbox;have hbel:=Kept.below HBX.out h.kp HBX.out.size (by simp);have hres:=h.kp.blk HZ.out (by simp);have hW:X.heap.size≤w'.heap.size:=h.kp.size;have l2:=(h.c2 rfl);have l5:=(h.c5 rfl);have l8:=(h.c8 rfl);have l11:=(h.c11 rfl)
  obtain⟨T,hT⟩:∃T,T=w.heap.size::(w.heap.size+1)::(u9.ownBlock.toList++(u12.ownBlock.toList++(u15.ownBlock.toList++(u18.ownBlock.toList++E)))):=⟨_,rfl⟩
  have hTw:∀q∈T,v0.heap.size≤q∧q<w'.heap.size:=fun q hq=>by
   have hv0:=HB0.out.size;rw[hT]at hq;simp only[List.mem_cons,List.mem_append,Option.mem_toList]at hq;rcases hq with e | e | e | e | e | e | e
   ·omega
   ·have:=HZ.out.lt;omega
   ·have:=o2.lt e;omega
   ·have:=o5.lt e;omega
   ·have:=o8.lt e;omega
   ·have:=o11.lt e;omega
   ·have:=HE.out q e;have:=hbel.size;omega
  have hT1:w.heap.size+1∈T:=by rw[hT];simp
  have hTE:∀q∈E,q∈T:=fun q hq=>by rw[hT];simp[hq]
  have hTn:∀q∈T,q∈([]:LN)∨v0.heap.size≤q:=fun q hq=>.inr (hTw q hq).1;have S:=Zq1 (show ClnS w p T u9 u12 u15 u18 w' from⟨hbel,hbox,hres,RowN.of o2.row hTn (fun q e=>by rw[hT];simp[e]),RowN.of o5.row hTn (fun q e=>by rw[hT];simp[e]),RowN.of o8.row hTn (fun q e=>by rw[hT];simp[e]),RowN.of o11.row hTn (fun q e=>by rw[hT];simp[e])⟩)
  obtain⟨nA',nc',e9,-⟩:=o2.sl (by have:=HP.out.names.len;omega)
  obtain⟨sA',sc',e12,-⟩:=o5.sl (by have:=HP.out.shown.len;omega)
  obtain⟨rA',rc',e15,hsr⟩:=o8.sl (by have:=HP.out.rules.len;omega)
  obtain⟨mA',mc',e18,hsm⟩:=o11.sl (by have:=HP.out.min.len;omega)
  have hln:=HP.out.names.len;have hls:=HP.out.shown.len;have hlr:=HP.out.rules.len;have hlm:=HP.out.min.len;rw[← hln]at e9;rw[← hls]at e12;rw[← hlr]at e15 hsr;rw[← hlm]at e18 hsm;have hrc:=hsr.cap;have hrm:=hsr.max;have hmc:=hsm.cap;have hmm:=hsm.max;subst e9 e12 e15 e18;obtain rfl:=h.f0 rfl;obtain rfl:=h.f1 rfl;obtain rfl:=h.f3 rfl;obtain rfl:=h.f4 rfl;obtain rfl:=h.f6 rfl;obtain rfl:=h.f7 rfl;obtain rfl:=h.f9 rfl;obtain rfl:=h.f10 rfl;obtain rfl:=h.f12 rfl;obtain rfl:=h.f14 rfl;obtain rfl:=h.f16 rfl;obtain rfl:=h.f18 rfl;clear h o2 o5 o8 o11 hbox hbel hres l2 l5 l8 l11 hsr hsm hT HQ HZ
  obtain⟨w2,rfl⟩:∃w2:World,w2=w':=⟨_,rfl⟩
  have HRL9:=Zq1 hrl9;clear hrl9;have HML9:=Zq1 hml9;clear hml9
  obtain⟨HLN,HLS,HLR,HLM,HTW,HTN,HT1,HTE⟩:=Zq8 hln hls hlr hlm hTw hTn hT1 hTE;clear hln hls hlr hlm hTw hTn hT1 hTE
  obtain⟨p0,p1,p2,p3,p4,p5⟩:=pcells S.out.bx
  go_wp2_with fail;clear p0 p1 p2 p3 p4 p5;go_loopw [26] (fun t wr=>∃(k:Nat),k≤rl∧t=.int .i64 (k:Int)∧ClnS w p T (.slice nA' nl nc') (.slice sA' sl sc') (.slice rA' rl rc') (.slice mA' ml mc') wr∧w2.heap.size≤wr.heap.size) (fun t _=>rl-(intOf t).toNat)
  case atStart=>exact⟨0,Nat.zero_le _,rfl,S.out,Nat.le_refl _⟩
  case round=>
   obtain⟨wo,rfl⟩:∃wo:World,wo=wr:=⟨_,rfl⟩
   obtain⟨k,hk,rfl,hs,hsz⟩:=hrel
   by_cases hlt:k<rl
   ·obtain⟨x,hx⟩:∃x,p.rules[k]? = some x:=⟨_,List.getElem?_eq_getElem (by have:=HLR.out;omega)⟩
    have hsb:=hs.bx
    obtain⟨g,cap,c0,ev,hst,hcl,hcc,hfz⟩:=RowK.cellAt hs.rr hx
    injection ev with e1 e2 e3;subst e1 e3;clear e2
    obtain⟨hv,bv,wv,rfl,⟨hA,hl,hc,eh,i1⟩,i2,⟨bA,bl,bc,eb,i3⟩,⟨wA,wl,wc,ew,i4⟩⟩:=hst.now
    simp only[List.cons.injEq,and_true]at eh eb ew;subst eh eb ew;have d0:=hcc 0 _ rfl;have d1:=hcc 1 _ rfl;have d2:=hcc 2 _ rfl;have d3:=hcc 3 _ rfl;have d4:=hcc 4 _ rfl;have d5:=hcc 5 _ rfl;simp only[ruleR,Nat.add_zero]at d0 d1 d2 d3 d4 d5;have k0:(0:Int)≤(k:Int):=(by omega);have k1:(k:Int)<(rl:Int):=(by omega)
    have hs1:StabS intR T wo hA hl hc x.head:=fun V hV=>by
     obtain⟨_,_,_,e,⟨_,_,_,e1,k1⟩,_⟩:=hst V hV
     simp at e e1
     obtain⟨a1,-⟩:=e
     rw[← a1]at e1;injection e1 with e1 e2 e3;subst e1 e2 e3;exact k1
    have hs2:StabS intR T wo bA bl bc x.body:=fun V hV=>by
     obtain⟨_,_,_,e,_,_,⟨_,_,_,e1,k1⟩,_⟩:=hst V hV
     simp at e e1
     obtain⟨-,a1,-⟩:=e
     rw[← a1]at e1;injection e1 with e1 e2 e3;subst e1 e2 e3;exact k1
    have hs3:StabS intR T wo wA wl wc x.w:=fun V hV=>by
     obtain⟨_,_,_,e,_,_,_,⟨_,_,_,e1,k1⟩⟩:=hst V hV
     simp at e e1
     obtain⟨-,-,a1⟩:=e
     rw[← a1]at e1;injection e1 with e1 e2 e3;subst e1 e2 e3;exact k1
    have hgo:=hs.rr.own (k:=g) rfl;have hrle:=HRL9.out x (List.mem_of_getElem? hx);have j1:=i1.len;have j2:=i3.len;have j3:=i4.len;have kbo:=hs.bx.cell 3;have HX:=Zq1 hx;clear hx i1 i2 i3 i4 hst hcl hcc hsb;have HJ1:=Zq1 j1;have HJ2:=Zq1 j2;have HJ3:=Zq1 j3;clear j1 j2 j3
    obtain⟨HS,HS1,HS2,HS3,HRLE⟩:=Zq5 hs hs1 hs2 hs3 hrle;clear hs hs1 hs2 hs3 hrle
    go_upto_region 5 with fail;have hX5:=bel_alloc wo (.cells #[.bool x.choice,.slice hA hl hc,.bool x.sum,.int .i64 x.bound,.slice bA bl bc,.slice wA wl wc] 42);have hE5:=Blk.new wo 42 #[.bool x.choice,.slice hA hl hc,.bool x.sum,.int .i64 x.bound,.slice bA bl bc,.slice wA wl wc];have hzX:wo.heap.size<(wo.alloc (.cells #[.bool x.choice,.slice hA hl hc,.bool x.sum,.int .i64 x.bound,.slice bA bl bc,.slice wA wl wc] 42)).heap.size:=(by simp);generalize wo.alloc (.cells #[.bool x.choice,.slice hA hl hc,.bool x.sum,.int .i64 x.bound,.slice bA bl bc,.slice wA wl wc] 42)=X5 at *;have HSX:=Zq1 (HS.out.ext hX5);have HX5:=Zq1 HSX.out.bel;have kbx:=HSX.out.bx.cell 3;have ke1:=hE5.cell 1;have ke4:=hE5.cell 4;have ke5:=hE5.cell 5
    obtain⟨hgT,hwg,hgw⟩:=hgo
    have hnb:(⟨w.heap.size,3,none⟩:Addr).block∉[g]:=by
     obtain⟨_,c1,o1,_⟩:=HSX.out.rr
     simp
     intro e;exact own_blk o1 HSX.out.bx (by decide) (by rw[e];rfl)
    have hne:∀{j:Nat},(⟨wo.heap.size,j,none⟩:Addr).block∉[g]:=(by simp;omega);have hTX:∀q∈T,q<X5.heap.size:=fun q hq=>by have:=(HTW.out q hq).2;omega
    have hgX5:g<X5.heap.size:=(by omega)
    obtain⟨r1,r2,r3⟩:=HRLE.out
    have j1:hl≤100000:=(by have:=HJ1.out;omega);have j2:bl≤100000:=(by have:=HJ2.out;omega);have j3:wl≤100000:=(by have:=HJ3.out;omega);clear d0 d1 d2 d3 d4 d5 hfz kbo;refine wp_region_inv (fun listed a' w'=>∃(b0 b1 b2 b3 b4 b5 b6 b7 b8 b9 b10 b11 b12 b13 b14 b15 b16 b17 b18 b19 b20 b21 b22 b23 b24 b25 b26:Bool) (u31 u32 u33 u34 u35 u36 u37 u38 u39 u40 u41 u42 u43 u44 u45 u46 u47 u48 u49 u50 u51 u52 u53 u54:Value),listed=#[b0,b1,b2,b3,b4,b5,b6,b7,b8,b9,b10,b11,b12,b13,b14,b15,b16,b17,b18,b19,b20,b21,b22,b23,b24,b25,b26]∧a'={ tmps:=#[.agg #[.int .i64 p.n,.slice nA nl nc,.slice sA sl sc,.slice rA rl rc,.slice mA ml mc],.pointer (some ⟨w.heap.size,0,none⟩),.pointer (some ⟨w.heap.size+1,0,none⟩),.int .i64 (k:Int),.pointer (some ⟨wo.heap.size,0,none⟩),undef,undef,.pointer (some ⟨w.heap.size,1,none⟩),.slice nA nl nc,.slice nA' nl nc',.pointer (some ⟨w.heap.size,2,none⟩),.slice sA sl sc,.slice sA' sl sc',.pointer (some ⟨w.heap.size,3,none⟩),.slice rA rl rc,.slice (some ⟨g,0,none⟩) rl rc',.pointer (some ⟨w.heap.size,4,none⟩),.slice mA ml mc,.slice mA' ml mc',.pointer (some ⟨w.heap.size,1,none⟩),.pointer (some ⟨w.heap.size,2,none⟩),.pointer (some ⟨w.heap.size,3,none⟩),.pointer (some ⟨w.heap.size,4,none⟩),.pointer (some ⟨w.heap.size,3,none⟩),.slice (some ⟨g,0,none⟩) rl rc',.int .i64 (rl:Int),.int .i64 (k:Int),.bool true,.int .i64 (k:Int),.pointer (some ⟨g,k*6,none⟩),.agg #[.bool x.choice,.slice hA hl hc,.bool x.sum,.int .i64 x.bound,.slice bA bl bc,.slice wA wl wc],u31,u32,u33,u34,u35,u36,u37,u38,u39,u40,u41,u42,u43,u44,u45,u46,u47,u48,u49,u50,u51,u52,u53,u54,u55,undef,undef,undef,undef,undef,undef,undef,undef,undef,undef,undef,undef,undef,undef,undef,undef,undef,undef,undef,undef,undef,undef,undef,undef,undef,undef],defers:=[] }∧ClR w X5 p.rules x T g rl rc' k w.heap.size wo.heap.size hA hl hc bA bl bc wA wl wc w' b0 b1 b2 b3 b4 b5 b6 b7 b8 b9 b10 b11 b12 b13 b14 b15 b16 b17 b18 b19 b20 b21 b22 b23 b24 b25 b26 u31 u32 u33 u34 u35 u36 u37 u38 u39 u40 u41 u42 u43 u44 u45 u46 u47 u48 u49 u50 u51 u52 u53 u54) (by kernel_rfl) ?start ?step ?fin
    case start=>exact⟨false,false,false,false,false,false,false,false,false,false,false,false,false,false,false,false,false,false,false,false,false,false,false,false,false,false,false,_,_,_,_,_,_,_,_,_,_,_,_,_,_,_,_,_,_,_,_,_,_,_,_,rfl,rfl,ClR.start (Kept.refl _ _).drew (HSX.out.rr.bel (Below.refl _ _).drew)⟩
    case step=>
     rintro listed a' w' i o ⟨b0,b1,b2,b3,b4,b5,b6,b7,b8,b9,b10,b11,b12,b13,b14,b15,b16,b17,b18,b19,b20,b21,b22,b23,b24,b25,b26,u31,u32,u33,u34,u35,u36,u37,u38,u39,u40,u41,u42,u43,u44,u45,u46,u47,u48,u49,u50,u51,u52,u53,u54,rfl,rfl,h⟩ ho hli hd K hK;have Zqx:=fun i h=>hd ⟨i,.data⟩ h rfl
     match i,ho,hli,hd with
     |0,ho,hli,hd=>obtain⟨rfl,rfl⟩:_∧b0=false:=Zqj ho hli;go_simp;exact hK _ _ ⟨_,_,_,_,_,_,_,_,_,_,_,_,_,_,_,_,_,_,_,_,_,_,_,_,_,_,_,_,_,_,_,_,_,_,_,_,_,_,_,_,_,_,_,_,_,_,_,_,_,_,_,rfl,rfl,{ h with f0:=fun _=>rfl }⟩
     |1,ho,hli,hd=>obtain⟨rfl,rfl⟩:_∧b1=false:=Zqj ho hli;obtain rfl:b0=true:=Zqx 0 (by simp);obtain rfl:=h.f0 rfl;have q0:=h.kp.cell kbx hnb;go_simp;exact hK _ _ ⟨_,_,_,_,_,_,_,_,_,_,_,_,_,_,_,_,_,_,_,_,_,_,_,_,_,_,_,_,_,_,_,_,_,_,_,_,_,_,_,_,_,_,_,_,_,_,_,_,_,_,_,rfl,rfl,{ h with f1:=fun _=>rfl }⟩
     |2,ho,hli,hd=>obtain⟨rfl,rfl⟩:_∧b2=false:=Zqj ho hli;go_simp;exact hK _ _ ⟨_,_,_,_,_,_,_,_,_,_,_,_,_,_,_,_,_,_,_,_,_,_,_,_,_,_,_,_,_,_,_,_,_,_,_,_,_,_,_,_,_,_,_,_,_,_,_,_,_,_,_,rfl,rfl,{ h with f2:=fun _=>rfl }⟩
     |3,ho,hli,hd=>obtain⟨rfl,rfl⟩:_∧b3=false:=Zqj ho hli;go_simp;exact hK _ _ ⟨_,_,_,_,_,_,_,_,_,_,_,_,_,_,_,_,_,_,_,_,_,_,_,_,_,_,_,_,_,_,_,_,_,_,_,_,_,_,_,_,_,_,_,_,_,_,_,_,_,_,_,rfl,rfl,{ h with f3:=fun _=>rfl }⟩
     |4,ho,hli,hd=>obtain⟨rfl,rfl⟩:_∧b4=false:=Zqj ho hli;obtain rfl:b3=true:=Zqx 3 (by simp);obtain rfl:=h.f3 rfl;have q0:=h.kp.cell kbx hnb;go_simp;exact hK _ _ ⟨_,_,_,_,_,_,_,_,_,_,_,_,_,_,_,_,_,_,_,_,_,_,_,_,_,_,_,_,_,_,_,_,_,_,_,_,_,_,_,_,_,_,_,_,_,_,_,_,_,_,_,rfl,rfl,{ h with f4:=fun _=>rfl }⟩
     |5,ho,hli,hd=>obtain⟨rfl,rfl⟩:_∧b5=false:=Zqj ho hli;go_simp;exact hK _ _ ⟨_,_,_,_,_,_,_,_,_,_,_,_,_,_,_,_,_,_,_,_,_,_,_,_,_,_,_,_,_,_,_,_,_,_,_,_,_,_,_,_,_,_,_,_,_,_,_,_,_,_,_,rfl,rfl,{ h with f5:=fun _=>rfl }⟩
     |6,ho,hli,hd=>obtain⟨rfl,rfl⟩:_∧b6=false:=Zqj ho hli;go_simp;exact hK _ _ ⟨_,_,_,_,_,_,_,_,_,_,_,_,_,_,_,_,_,_,_,_,_,_,_,_,_,_,_,_,_,_,_,_,_,_,_,_,_,_,_,_,_,_,_,_,_,_,_,_,_,_,_,rfl,rfl,{ h with f6:=fun _=>rfl }⟩
     |7,ho,hli,hd=>obtain⟨rfl,rfl⟩:_∧b7=false:=Zqj ho hli;obtain rfl:b6=true:=Zqx 6 (by simp);obtain rfl:=h.f6 rfl;have q0:=h.kp.cell kbx hnb;go_simp;exact hK _ _ ⟨_,_,_,_,_,_,_,_,_,_,_,_,_,_,_,_,_,_,_,_,_,_,_,_,_,_,_,_,_,_,_,_,_,_,_,_,_,_,_,_,_,_,_,_,_,_,_,_,_,_,_,rfl,rfl,{ h with f7:=fun _=>rfl }⟩
     |8,ho,hli,hd=>obtain⟨rfl,rfl⟩:_∧b8=false:=Zqj ho hli;go_simp;exact hK _ _ ⟨_,_,_,_,_,_,_,_,_,_,_,_,_,_,_,_,_,_,_,_,_,_,_,_,_,_,_,_,_,_,_,_,_,_,_,_,_,_,_,_,_,_,_,_,_,_,_,_,_,_,_,rfl,rfl,{ h with f8:=fun _=>rfl }⟩
     |9,ho,hli,hd=>obtain⟨rfl,rfl⟩:_∧b9=false:=Zqj ho hli;go_simp;exact hK _ _ ⟨_,_,_,_,_,_,_,_,_,_,_,_,_,_,_,_,_,_,_,_,_,_,_,_,_,_,_,_,_,_,_,_,_,_,_,_,_,_,_,_,_,_,_,_,_,_,_,_,_,_,_,rfl,rfl,{ h with f9:=fun _=>rfl }⟩
     |10,ho,hli,hd=>obtain⟨rfl,rfl⟩:_∧b10=false:=Zqj ho hli;obtain rfl:b9=true:=Zqx 9 (by simp);obtain rfl:=h.f9 rfl;have q0:=h.kp.cell ke1 hne;go_simp;exact hK _ _ ⟨_,_,_,_,_,_,_,_,_,_,_,_,_,_,_,_,_,_,_,_,_,_,_,_,_,_,_,_,_,_,_,_,_,_,_,_,_,_,_,_,_,_,_,_,_,_,_,_,_,_,_,rfl,rfl,{ h with f10:=fun _=>rfl }⟩
     |11,ho,hli,hd=>
      obtain⟨rfl,rfl⟩:_∧b11=false:=Zqj ho hli;obtain rfl:b10=true:=Zqx 10 (by simp);obtain rfl:=h.f10 rfl;have hwb:=Kept.below HX5.out h.kp HX5.out.size (by simp;omega);have hsl:=HS1.out _ ((Kept.of_below hX5 T).thn h.kp (by simp;exact .inl hgT));go_simp
      refine(cloneI_own _ _ _ _ w' w' hsl (Below.refl _ _) (by omega)).mono ?_
      rintro e v ⟨A,l,c,rfl,hu,-,hb⟩;exact hK _ _ ⟨_,_,_,_,_,_,_,_,_,_,_,_,_,_,_,_,_,_,_,_,_,_,_,_,_,_,_,_,_,_,_,_,_,_,_,_,_,_,_,_,_,_,_,_,_,_,_,_,_,_,_,rfl,rfl,h.call11 hb ((hu.mono (Nat.le_refl _) (Nat.le_refl _)).reW2 (hwb.trans (hb.mono hwb.size)) HX5.out.size h.kp.size)⟩
     |12,ho,hli,hd=>obtain⟨rfl,rfl⟩:_∧b12=false:=Zqj ho hli;go_simp;exact hK _ _ ⟨_,_,_,_,_,_,_,_,_,_,_,_,_,_,_,_,_,_,_,_,_,_,_,_,_,_,_,_,_,_,_,_,_,_,_,_,_,_,_,_,_,_,_,_,_,_,_,_,_,_,_,rfl,rfl,{ h with f12:=fun _=>rfl }⟩
     |13,ho,hli,hd=>obtain⟨rfl,rfl⟩:_∧b13=false:=Zqj ho hli;obtain rfl:b12=true:=Zqx 12 (by simp);obtain rfl:=h.f12 rfl;have q0:=h.kp.cell ke4 hne;go_simp;exact hK _ _ ⟨_,_,_,_,_,_,_,_,_,_,_,_,_,_,_,_,_,_,_,_,_,_,_,_,_,_,_,_,_,_,_,_,_,_,_,_,_,_,_,_,_,_,_,_,_,_,_,_,_,_,_,rfl,rfl,{ h with f13:=fun _=>rfl }⟩
     |14,ho,hli,hd=>
      obtain⟨rfl,rfl⟩:_∧b14=false:=Zqj ho hli;obtain rfl:b13=true:=Zqx 13 (by simp);obtain rfl:=h.f13 rfl;have hwb:=Kept.below HX5.out h.kp HX5.out.size (by simp;omega);have hsl:=HS2.out _ ((Kept.of_below hX5 T).thn h.kp (by simp;exact .inl hgT));go_simp
      refine(cloneI_own _ _ _ _ w' w' hsl (Below.refl _ _) (by omega)).mono ?_
      rintro e v ⟨A,l,c,rfl,hu,-,hb⟩;exact hK _ _ ⟨_,_,_,_,_,_,_,_,_,_,_,_,_,_,_,_,_,_,_,_,_,_,_,_,_,_,_,_,_,_,_,_,_,_,_,_,_,_,_,_,_,_,_,_,_,_,_,_,_,_,_,rfl,rfl,h.call14 hb ((hu.mono (Nat.le_refl _) (Nat.le_refl _)).reW2 (hwb.trans (hb.mono hwb.size)) HX5.out.size h.kp.size)⟩
     |15,ho,hli,hd=>obtain⟨rfl,rfl⟩:_∧b15=false:=Zqj ho hli;go_simp;exact hK _ _ ⟨_,_,_,_,_,_,_,_,_,_,_,_,_,_,_,_,_,_,_,_,_,_,_,_,_,_,_,_,_,_,_,_,_,_,_,_,_,_,_,_,_,_,_,_,_,_,_,_,_,_,_,rfl,rfl,{ h with f15:=fun _=>rfl }⟩
     |16,ho,hli,hd=>obtain⟨rfl,rfl⟩:_∧b16=false:=Zqj ho hli;obtain rfl:b15=true:=Zqx 15 (by simp);obtain rfl:=h.f15 rfl;have q0:=h.kp.cell ke5 hne;go_simp;exact hK _ _ ⟨_,_,_,_,_,_,_,_,_,_,_,_,_,_,_,_,_,_,_,_,_,_,_,_,_,_,_,_,_,_,_,_,_,_,_,_,_,_,_,_,_,_,_,_,_,_,_,_,_,_,_,rfl,rfl,{ h with f16:=fun _=>rfl }⟩
     |17,ho,hli,hd=>
      obtain⟨rfl,rfl⟩:_∧b17=false:=Zqj ho hli;obtain rfl:b16=true:=Zqx 16 (by simp);obtain rfl:=h.f16 rfl;have hwb:=Kept.below HX5.out h.kp HX5.out.size (by simp;omega);have hsl:=HS3.out _ ((Kept.of_below hX5 T).thn h.kp (by simp;exact .inl hgT));go_simp
      refine(cloneI_own _ _ _ _ w' w' hsl (Below.refl _ _) (by omega)).mono ?_
      rintro e v ⟨A,l,c,rfl,hu,-,hb⟩;exact hK _ _ ⟨_,_,_,_,_,_,_,_,_,_,_,_,_,_,_,_,_,_,_,_,_,_,_,_,_,_,_,_,_,_,_,_,_,_,_,_,_,_,_,_,_,_,_,_,_,_,_,_,_,_,_,rfl,rfl,h.call17 hb ((hu.mono (Nat.le_refl _) (Nat.le_refl _)).reW2 (hwb.trans (hb.mono hwb.size)) HX5.out.size h.kp.size)⟩
     |18,ho,hli,hd=>obtain⟨rfl,rfl⟩:_∧b18=false:=Zqj ho hli;obtain rfl:b1=true:=Zqx 1 (by simp);obtain rfl:b2=true:=Zqx 2 (by simp);obtain rfl:=h.f1 rfl;obtain rfl:=h.f2 rfl;go_simp;exact hK _ _ ⟨_,_,_,_,_,_,_,_,_,_,_,_,_,_,_,_,_,_,_,_,_,_,_,_,_,_,_,_,_,_,_,_,_,_,_,_,_,_,_,_,_,_,_,_,_,_,_,_,_,_,_,rfl,rfl,{ h with f18:=fun _=>rfl }⟩
     |19,ho,hli,hd=>obtain⟨rfl,rfl⟩:_∧b19=false:=Zqj ho hli;obtain rfl:b18=true:=Zqx 18 (by simp);obtain rfl:=h.f18 rfl;go_simp;exact hK _ _ ⟨_,_,_,_,_,_,_,_,_,_,_,_,_,_,_,_,_,_,_,_,_,_,_,_,_,_,_,_,_,_,_,_,_,_,_,_,_,_,_,_,_,_,_,_,_,_,_,_,_,_,_,rfl,rfl,{ h with f19:=fun _=>rfl }⟩
     |20,ho,hli,hd=>
      obtain⟨rfl,rfl⟩:_∧b20=false:=Zqj ho hli;obtain rfl:b19=true:=Zqx 19 (by simp);obtain rfl:b11=true:=Zqx 11 (by simp);obtain rfl:=h.f19 rfl
      obtain⟨u,q1,q2⟩:=h.row.at_ HX.out (j:=1) (by decide)
      obtain⟨A,l,c,rfl,h'⟩:=h.store20 HX.out hTX (by omega) hgX5 (by omega)
      simp only[ruleR]at q1 q2;go_simp;exact hK _ _ ⟨_,_,_,_,_,_,_,_,_,_,_,_,_,_,_,_,_,_,_,_,_,_,_,_,_,_,_,_,_,_,_,_,_,_,_,_,_,_,_,_,_,_,_,_,_,_,_,_,_,_,_,rfl,rfl,h'⟩
     |21,ho,hli,hd=>obtain⟨rfl,rfl⟩:_∧b21=false:=Zqj ho hli;obtain rfl:b4=true:=Zqx 4 (by simp);obtain rfl:b5=true:=Zqx 5 (by simp);obtain rfl:=h.f4 rfl;obtain rfl:=h.f5 rfl;go_simp;exact hK _ _ ⟨_,_,_,_,_,_,_,_,_,_,_,_,_,_,_,_,_,_,_,_,_,_,_,_,_,_,_,_,_,_,_,_,_,_,_,_,_,_,_,_,_,_,_,_,_,_,_,_,_,_,_,rfl,rfl,{ h with f21:=fun _=>rfl }⟩
     |22,ho,hli,hd=>obtain⟨rfl,rfl⟩:_∧b22=false:=Zqj ho hli;obtain rfl:b21=true:=Zqx 21 (by simp);obtain rfl:=h.f21 rfl;go_simp;exact hK _ _ ⟨_,_,_,_,_,_,_,_,_,_,_,_,_,_,_,_,_,_,_,_,_,_,_,_,_,_,_,_,_,_,_,_,_,_,_,_,_,_,_,_,_,_,_,_,_,_,_,_,_,_,_,rfl,rfl,{ h with f22:=fun _=>rfl }⟩
     |23,ho,hli,hd=>
      obtain⟨rfl,rfl⟩:_∧b23=false:=Zqj ho hli;obtain rfl:b22=true:=Zqx 22 (by simp);obtain rfl:b14=true:=Zqx 14 (by simp);obtain rfl:=h.f22 rfl
      obtain⟨u,q1,q2⟩:=h.row.at_ HX.out (j:=4) (by decide)
      obtain⟨A,l,c,rfl,h'⟩:=h.store23 HX.out hTX (by omega) hgX5 (by omega)
      simp only[ruleR]at q1 q2;go_simp;exact hK _ _ ⟨_,_,_,_,_,_,_,_,_,_,_,_,_,_,_,_,_,_,_,_,_,_,_,_,_,_,_,_,_,_,_,_,_,_,_,_,_,_,_,_,_,_,_,_,_,_,_,_,_,_,_,rfl,rfl,h'⟩
     |24,ho,hli,hd=>obtain⟨rfl,rfl⟩:_∧b24=false:=Zqj ho hli;obtain rfl:b7=true:=Zqx 7 (by simp);obtain rfl:b8=true:=Zqx 8 (by simp);obtain rfl:=h.f7 rfl;obtain rfl:=h.f8 rfl;go_simp;exact hK _ _ ⟨_,_,_,_,_,_,_,_,_,_,_,_,_,_,_,_,_,_,_,_,_,_,_,_,_,_,_,_,_,_,_,_,_,_,_,_,_,_,_,_,_,_,_,_,_,_,_,_,_,_,_,rfl,rfl,{ h with f24:=fun _=>rfl }⟩
     |25,ho,hli,hd=>obtain⟨rfl,rfl⟩:_∧b25=false:=Zqj ho hli;obtain rfl:b24=true:=Zqx 24 (by simp);obtain rfl:=h.f24 rfl;go_simp;exact hK _ _ ⟨_,_,_,_,_,_,_,_,_,_,_,_,_,_,_,_,_,_,_,_,_,_,_,_,_,_,_,_,_,_,_,_,_,_,_,_,_,_,_,_,_,_,_,_,_,_,_,_,_,_,_,rfl,rfl,{ h with f25:=fun _=>rfl }⟩
     |26,ho,hli,hd=>
      obtain⟨rfl,rfl⟩:_∧b26=false:=Zqj ho hli;obtain rfl:b25=true:=Zqx 25 (by simp);obtain rfl:b17=true:=Zqx 17 (by simp);obtain rfl:=h.f25 rfl
      obtain⟨u,q1,q2⟩:=h.row.at_ HX.out (j:=5) (by decide)
      obtain⟨A,l,c,rfl,h'⟩:=h.store26 HX.out hTX (by omega) hgX5 (by omega)
      simp only[ruleR]at q1 q2;go_simp;exact hK _ _ ⟨_,_,_,_,_,_,_,_,_,_,_,_,_,_,_,_,_,_,_,_,_,_,_,_,_,_,_,_,_,_,_,_,_,_,_,_,_,_,_,_,_,_,_,_,_,_,_,_,_,_,_,rfl,rfl,h'⟩
     |i+27,ho,hli,hd=>simp at ho
    case fin=>
     rintro listed a' w' ⟨b0,b1,b2,b3,b4,b5,b6,b7,b8,b9,b10,b11,b12,b13,b14,b15,b16,b17,b18,b19,b20,b21,b22,b23,b24,b25,b26,u31,u32,u33,u34,u35,u36,u37,u38,u39,u40,u41,u42,u43,u44,u45,u46,u47,u48,u49,u50,u51,u52,u53,u54,rfl,rfl,h⟩ hr;obtain rfl:b0=true:=Zqn hr 0 rfl;obtain rfl:b1=true:=Zqn hr 1 rfl;obtain rfl:b2=true:=Zqn hr 2 rfl;obtain rfl:b3=true:=Zqn hr 3 rfl;obtain rfl:b4=true:=Zqn hr 4 rfl;obtain rfl:b5=true:=Zqn hr 5 rfl;obtain rfl:b6=true:=Zqn hr 6 rfl;obtain rfl:b7=true:=Zqn hr 7 rfl;obtain rfl:b8=true:=Zqn hr 8 rfl;obtain rfl:b9=true:=Zqn hr 9 rfl;obtain rfl:b10=true:=Zqn hr 10 rfl;obtain rfl:b11=true:=Zqn hr 11 rfl;obtain rfl:b12=true:=Zqn hr 12 rfl;obtain rfl:b13=true:=Zqn hr 13 rfl;obtain rfl:b14=true:=Zqn hr 14 rfl;obtain rfl:b15=true:=Zqn hr 15 rfl;obtain rfl:b16=true:=Zqn hr 16 rfl;obtain rfl:b17=true:=Zqn hr 17 rfl;obtain rfl:b18=true:=Zqn hr 18 rfl;obtain rfl:b19=true:=Zqn hr 19 rfl;obtain rfl:b20=true:=Zqn hr 20 rfl;obtain rfl:b21=true:=Zqn hr 21 rfl;obtain rfl:b22=true:=Zqn hr 22 rfl;obtain rfl:b23=true:=Zqn hr 23 rfl;obtain rfl:b24=true:=Zqn hr 24 rfl;obtain rfl:b25=true:=Zqn hr 25 rfl;obtain rfl:b26=true:=Zqn hr 26 rfl;clear hr;have hsW:=HSX.out.rules h.kp h.row;have hzW:=h.kp.size;obtain rfl:=h.f0 rfl;obtain rfl:=h.f1 rfl;obtain rfl:=h.f2 rfl;obtain rfl:=h.f3 rfl;obtain rfl:=h.f4 rfl;obtain rfl:=h.f5 rfl;obtain rfl:=h.f6 rfl;obtain rfl:=h.f7 rfl;obtain rfl:=h.f8 rfl;obtain rfl:=h.f9 rfl;obtain rfl:=h.f10 rfl;obtain rfl:=h.f12 rfl;obtain rfl:=h.f13 rfl;obtain rfl:=h.f15 rfl;obtain rfl:=h.f16 rfl;obtain rfl:=h.f18 rfl;obtain rfl:=h.f19 rfl;obtain rfl:=h.f21 rfl;obtain rfl:=h.f22 rfl;obtain rfl:=h.f24 rfl;obtain rfl:=h.f25 rfl;clear h kbx ke1 ke4 ke5 hE5 hX5;have HSW:=Zq1 hsW;clear hsW;go_wp2_with fail;go_roundw;exact⟨k+1,by omega,by go_num,HSW.out,by omega⟩;simp[intOf];omega
   ·have HS:=Zq1 hs;clear hs
    obtain⟨p0,p1,p2,p3,p4,p5⟩:=pcells HS.out.bx
    go_wp2_with fail;clear p0 p1 p2 p3 p4 p5;have hkr:k=k:=rfl;clear hk hkr S HRL9 HLR;go_loopw [59] (fun t wr=>∃(j:Nat),j≤ml∧t=.int .i64 (j:Int)∧ClnS w p T (.slice nA' nl nc') (.slice sA' sl sc') (.slice rA' rl rc') (.slice mA' ml mc') wr∧w2.heap.size≤wr.heap.size) (fun t _=>ml-(intOf t).toNat)
    case atStart=>exact⟨0,Nat.zero_le _,rfl,HS.out,hsz⟩
    case round=>
     obtain⟨wp,rfl⟩:∃wp:World,wp=wo:=⟨_,rfl⟩
     obtain⟨wo,rfl⟩:∃wo:World,wo=wr:=⟨_,rfl⟩
     clear HS hsz
     obtain⟨j,hj,rfl,hs,hsz⟩:=hrel
     by_cases hlt2:j<ml
     ·obtain⟨x,hx⟩:∃x,p.min[j]? = some x:=⟨_,List.getElem?_eq_getElem (by have:=HLM.out;omega)⟩
      obtain⟨g,cap,c0,ev,hst,hcl,hcc,hfz⟩:=RowK.cellAt hs.rm hx
      injection ev with e1 e2 e3;subst e1 e3;clear e2
      obtain⟨hv,bv,rfl,i2,⟨hA,hl,hc,eh,i1⟩,⟨bA,bl,bc,eb,i3⟩⟩:=hst.now
      simp only[List.cons.injEq,and_true]at eh eb;subst eh eb;have d0:=hcc 0 _ rfl;have d1:=hcc 1 _ rfl;have d2:=hcc 2 _ rfl;simp only[minR,Nat.add_zero]at d0 d1 d2;have k0:(0:Int)≤(j:Int):=(by omega);have k1:(j:Int)<(ml:Int):=(by omega)
      have hs1:StabS intR T wo hA hl hc x.lits:=fun V hV=>by
       obtain⟨_,_,e,_,⟨_,_,_,e1,k1⟩,_⟩:=hst V hV
       simp at e e1
       obtain⟨a1,-⟩:=e
       rw[← a1]at e1;injection e1 with e1 e2 e3;subst e1 e2 e3;exact k1
      have hs2:StabS intR T wo bA bl bc x.w:=fun V hV=>by
       obtain⟨_,_,e,_,_,⟨_,_,_,e1,k1⟩⟩:=hst V hV
       simp at e e1
       obtain⟨-,a1⟩:=e
       rw[← a1]at e1;injection e1 with e1 e2 e3;subst e1 e2 e3;exact k1
      have hgo:=hs.rm.own (k:=g) rfl;have hrle:=HML9.out x (List.mem_of_getElem? hx);have j1:=i1.len;have j2:=i3.len;have kbo:=hs.bx.cell 4;have HX:=Zq1 hx;clear hx i1 i2 i3 hst hcl hcc;have HJ1:=Zq1 j1;have HJ2:=Zq1 j2;clear j1 j2
      obtain⟨HS,HS1,HS2,HRLE⟩:=Zq4 hs hs1 hs2 hrle;clear hs hs1 hs2 hrle
      go_upto_region 10 with fail;have hX5:=bel_alloc wo (.cells #[.int .i64 x.level,.slice hA hl hc,.slice bA bl bc] 67);have hE5:=Blk.new wo 67 #[.int .i64 x.level,.slice hA hl hc,.slice bA bl bc];have hzX:wo.heap.size<(wo.alloc (.cells #[.int .i64 x.level,.slice hA hl hc,.slice bA bl bc] 67)).heap.size:=(by simp);generalize wo.alloc (.cells #[.int .i64 x.level,.slice hA hl hc,.slice bA bl bc] 67)=X5 at *;have HSX:=Zq1 (HS.out.ext hX5);have HX5:=Zq1 HSX.out.bel;have kbx:=HSX.out.bx.cell 4;have ke1:=hE5.cell 1;have ke2:=hE5.cell 2
      obtain⟨hgT,hwg,hgw⟩:=hgo
      have hnb:(⟨w.heap.size,4,none⟩:Addr).block∉[g]:=by
       obtain⟨_,c1,o1,_⟩:=HSX.out.rm
       simp
       intro e;exact own_blk o1 HSX.out.bx (by decide) (by rw[e];rfl)
      have hne:∀{j:Nat},(⟨wo.heap.size,j,none⟩:Addr).block∉[g]:=(by simp;omega);have hTX:∀q∈T,q<X5.heap.size:=fun q hq=>by have:=(HTW.out q hq).2;omega
      have hgX5:g<X5.heap.size:=(by omega)
      obtain⟨r1,r2⟩:=HRLE.out
      have j1:hl≤100000:=(by have:=HJ1.out;omega);have j2:bl≤100000:=(by have:=HJ2.out;omega);clear d0 d1 d2 hfz kbo;refine wp_region_inv (fun listed a' w'=>∃(b0 b1 b2 b3 b4 b5 b6 b7 b8 b9 b10 b11 b12 b13 b14 b15 b16 b17:Bool) (u64 u65 u66 u67 u68 u69 u70 u71 u72 u73 u74 u75 u76 u77 u78 u79:Value),listed=#[b0,b1,b2,b3,b4,b5,b6,b7,b8,b9,b10,b11,b12,b13,b14,b15,b16,b17]∧a'={ tmps:=#[.agg #[.int .i64 p.n,.slice nA nl nc,.slice sA sl sc,.slice rA rl rc,.slice mA ml mc],.pointer (some ⟨w.heap.size,0,none⟩),.pointer (some ⟨w.heap.size+1,0,none⟩),u3,u4,.int .i64 (j:Int),.pointer (some ⟨wo.heap.size,0,none⟩),.pointer (some ⟨w.heap.size,1,none⟩),.slice nA nl nc,.slice nA' nl nc',.pointer (some ⟨w.heap.size,2,none⟩),.slice sA sl sc,.slice sA' sl sc',.pointer (some ⟨w.heap.size,3,none⟩),.slice rA rl rc,.slice rA' rl rc',.pointer (some ⟨w.heap.size,4,none⟩),.slice mA ml mc,.slice (some ⟨g,0,none⟩) ml mc',.pointer (some ⟨w.heap.size,1,none⟩),.pointer (some ⟨w.heap.size,2,none⟩),.pointer (some ⟨w.heap.size,3,none⟩),.pointer (some ⟨w.heap.size,4,none⟩),.pointer (some ⟨w.heap.size,3,none⟩),.slice rA' rl rc',.int .i64 (rl:Int),.int .i64 (k:Int),.bool false,u28,u29,u30,u31,u32,u33,u34,u35,u36,u37,u38,u39,u40,u41,u42,u43,u44,u45,u46,u47,u48,u49,u50,u51,u52,u53,u54,u55,.pointer (some ⟨w.heap.size,4,none⟩),.slice (some ⟨g,0,none⟩) ml mc',.int .i64 (ml:Int),.int .i64 (j:Int),.bool true,.int .i64 (j:Int),.pointer (some ⟨g,j*3,none⟩),.agg #[.int .i64 x.level,.slice hA hl hc,.slice bA bl bc],u64,u65,u66,u67,u68,u69,u70,u71,u72,u73,u74,u75,u76,u77,u78,u79,u80,undef],defers:=[] }∧ClM w X5 p.min x T g ml mc' j w.heap.size wo.heap.size hA hl hc bA bl bc w' b0 b1 b2 b3 b4 b5 b6 b7 b8 b9 b10 b11 b12 b13 b14 b15 b16 b17 u64 u65 u66 u67 u68 u69 u70 u71 u72 u73 u74 u75 u76 u77 u78 u79) (by kernel_rfl) ?start ?step ?fin
      case start=>exact⟨false,false,false,false,false,false,false,false,false,false,false,false,false,false,false,false,false,false,_,_,_,_,_,_,_,_,_,_,_,_,_,_,_,_,rfl,rfl,ClM.start (Kept.refl _ _).drew (HSX.out.rm.bel (Below.refl _ _).drew)⟩
      case step=>
       rintro listed a' w' i o ⟨b0,b1,b2,b3,b4,b5,b6,b7,b8,b9,b10,b11,b12,b13,b14,b15,b16,b17,u64,u65,u66,u67,u68,u69,u70,u71,u72,u73,u74,u75,u76,u77,u78,u79,rfl,rfl,h⟩ ho hli hd K hK;have Zqx:=fun i h=>hd ⟨i,.data⟩ h rfl
       match i,ho,hli,hd with
       |0,ho,hli,hd=>obtain⟨rfl,rfl⟩:_∧b0=false:=Zqj ho hli;go_simp;exact hK _ _ ⟨_,_,_,_,_,_,_,_,_,_,_,_,_,_,_,_,_,_,_,_,_,_,_,_,_,_,_,_,_,_,_,_,_,_,rfl,rfl,{ h with f0:=fun _=>rfl }⟩
       |1,ho,hli,hd=>obtain⟨rfl,rfl⟩:_∧b1=false:=Zqj ho hli;obtain rfl:b0=true:=Zqx 0 (by simp);obtain rfl:=h.f0 rfl;have q0:=h.kp.cell kbx hnb;go_simp;exact hK _ _ ⟨_,_,_,_,_,_,_,_,_,_,_,_,_,_,_,_,_,_,_,_,_,_,_,_,_,_,_,_,_,_,_,_,_,_,rfl,rfl,{ h with f1:=fun _=>rfl }⟩
       |2,ho,hli,hd=>obtain⟨rfl,rfl⟩:_∧b2=false:=Zqj ho hli;go_simp;exact hK _ _ ⟨_,_,_,_,_,_,_,_,_,_,_,_,_,_,_,_,_,_,_,_,_,_,_,_,_,_,_,_,_,_,_,_,_,_,rfl,rfl,{ h with f2:=fun _=>rfl }⟩
       |3,ho,hli,hd=>obtain⟨rfl,rfl⟩:_∧b3=false:=Zqj ho hli;go_simp;exact hK _ _ ⟨_,_,_,_,_,_,_,_,_,_,_,_,_,_,_,_,_,_,_,_,_,_,_,_,_,_,_,_,_,_,_,_,_,_,rfl,rfl,{ h with f3:=fun _=>rfl }⟩
       |4,ho,hli,hd=>obtain⟨rfl,rfl⟩:_∧b4=false:=Zqj ho hli;obtain rfl:b3=true:=Zqx 3 (by simp);obtain rfl:=h.f3 rfl;have q0:=h.kp.cell kbx hnb;go_simp;exact hK _ _ ⟨_,_,_,_,_,_,_,_,_,_,_,_,_,_,_,_,_,_,_,_,_,_,_,_,_,_,_,_,_,_,_,_,_,_,rfl,rfl,{ h with f4:=fun _=>rfl }⟩
       |5,ho,hli,hd=>obtain⟨rfl,rfl⟩:_∧b5=false:=Zqj ho hli;go_simp;exact hK _ _ ⟨_,_,_,_,_,_,_,_,_,_,_,_,_,_,_,_,_,_,_,_,_,_,_,_,_,_,_,_,_,_,_,_,_,_,rfl,rfl,{ h with f5:=fun _=>rfl }⟩
       |6,ho,hli,hd=>obtain⟨rfl,rfl⟩:_∧b6=false:=Zqj ho hli;go_simp;exact hK _ _ ⟨_,_,_,_,_,_,_,_,_,_,_,_,_,_,_,_,_,_,_,_,_,_,_,_,_,_,_,_,_,_,_,_,_,_,rfl,rfl,{ h with f6:=fun _=>rfl }⟩
       |7,ho,hli,hd=>obtain⟨rfl,rfl⟩:_∧b7=false:=Zqj ho hli;obtain rfl:b6=true:=Zqx 6 (by simp);obtain rfl:=h.f6 rfl;have q0:=h.kp.cell ke1 hne;go_simp;exact hK _ _ ⟨_,_,_,_,_,_,_,_,_,_,_,_,_,_,_,_,_,_,_,_,_,_,_,_,_,_,_,_,_,_,_,_,_,_,rfl,rfl,{ h with f7:=fun _=>rfl }⟩
       |8,ho,hli,hd=>
        obtain⟨rfl,rfl⟩:_∧b8=false:=Zqj ho hli;obtain rfl:b7=true:=Zqx 7 (by simp);obtain rfl:=h.f7 rfl;have hwb:=Kept.below HX5.out h.kp HX5.out.size (by simp;omega);have hsl:=HS1.out _ ((Kept.of_below hX5 T).thn h.kp (by simp;exact .inl hgT));go_simp
        refine(cloneI_own _ _ _ _ w' w' hsl (Below.refl _ _) (by omega)).mono ?_
        rintro e v ⟨A,l,c,rfl,hu,-,hb⟩;exact hK _ _ ⟨_,_,_,_,_,_,_,_,_,_,_,_,_,_,_,_,_,_,_,_,_,_,_,_,_,_,_,_,_,_,_,_,_,_,rfl,rfl,h.call8 hb ((hu.mono (Nat.le_refl _) (Nat.le_refl _)).reW2 (hwb.trans (hb.mono hwb.size)) HX5.out.size h.kp.size)⟩
       |9,ho,hli,hd=>obtain⟨rfl,rfl⟩:_∧b9=false:=Zqj ho hli;go_simp;exact hK _ _ ⟨_,_,_,_,_,_,_,_,_,_,_,_,_,_,_,_,_,_,_,_,_,_,_,_,_,_,_,_,_,_,_,_,_,_,rfl,rfl,{ h with f9:=fun _=>rfl }⟩
       |10,ho,hli,hd=>obtain⟨rfl,rfl⟩:_∧b10=false:=Zqj ho hli;obtain rfl:b9=true:=Zqx 9 (by simp);obtain rfl:=h.f9 rfl;have q0:=h.kp.cell ke2 hne;go_simp;exact hK _ _ ⟨_,_,_,_,_,_,_,_,_,_,_,_,_,_,_,_,_,_,_,_,_,_,_,_,_,_,_,_,_,_,_,_,_,_,rfl,rfl,{ h with f10:=fun _=>rfl }⟩
       |11,ho,hli,hd=>
        obtain⟨rfl,rfl⟩:_∧b11=false:=Zqj ho hli;obtain rfl:b10=true:=Zqx 10 (by simp);obtain rfl:=h.f10 rfl;have hwb:=Kept.below HX5.out h.kp HX5.out.size (by simp;omega);have hsl:=HS2.out _ ((Kept.of_below hX5 T).thn h.kp (by simp;exact .inl hgT));go_simp
        refine(cloneI_own _ _ _ _ w' w' hsl (Below.refl _ _) (by omega)).mono ?_
        rintro e v ⟨A,l,c,rfl,hu,-,hb⟩;exact hK _ _ ⟨_,_,_,_,_,_,_,_,_,_,_,_,_,_,_,_,_,_,_,_,_,_,_,_,_,_,_,_,_,_,_,_,_,_,rfl,rfl,h.call11 hb ((hu.mono (Nat.le_refl _) (Nat.le_refl _)).reW2 (hwb.trans (hb.mono hwb.size)) HX5.out.size h.kp.size)⟩
       |12,ho,hli,hd=>obtain⟨rfl,rfl⟩:_∧b12=false:=Zqj ho hli;obtain rfl:b1=true:=Zqx 1 (by simp);obtain rfl:b2=true:=Zqx 2 (by simp);obtain rfl:=h.f1 rfl;obtain rfl:=h.f2 rfl;go_simp;exact hK _ _ ⟨_,_,_,_,_,_,_,_,_,_,_,_,_,_,_,_,_,_,_,_,_,_,_,_,_,_,_,_,_,_,_,_,_,_,rfl,rfl,{ h with f12:=fun _=>rfl }⟩
       |13,ho,hli,hd=>obtain⟨rfl,rfl⟩:_∧b13=false:=Zqj ho hli;obtain rfl:b12=true:=Zqx 12 (by simp);obtain rfl:=h.f12 rfl;go_simp;exact hK _ _ ⟨_,_,_,_,_,_,_,_,_,_,_,_,_,_,_,_,_,_,_,_,_,_,_,_,_,_,_,_,_,_,_,_,_,_,rfl,rfl,{ h with f13:=fun _=>rfl }⟩
       |14,ho,hli,hd=>
        obtain⟨rfl,rfl⟩:_∧b14=false:=Zqj ho hli;obtain rfl:b13=true:=Zqx 13 (by simp);obtain rfl:b8=true:=Zqx 8 (by simp);obtain rfl:=h.f13 rfl
        obtain⟨u,q1,q2⟩:=h.row.at_ HX.out (j:=1) (by decide)
        obtain⟨A,l,c,rfl,h'⟩:=h.store14 HX.out hTX (by omega) hgX5 (by omega)
        simp only[minR]at q1 q2;go_simp;exact hK _ _ ⟨_,_,_,_,_,_,_,_,_,_,_,_,_,_,_,_,_,_,_,_,_,_,_,_,_,_,_,_,_,_,_,_,_,_,rfl,rfl,h'⟩
       |15,ho,hli,hd=>obtain⟨rfl,rfl⟩:_∧b15=false:=Zqj ho hli;obtain rfl:b4=true:=Zqx 4 (by simp);obtain rfl:b5=true:=Zqx 5 (by simp);obtain rfl:=h.f4 rfl;obtain rfl:=h.f5 rfl;go_simp;exact hK _ _ ⟨_,_,_,_,_,_,_,_,_,_,_,_,_,_,_,_,_,_,_,_,_,_,_,_,_,_,_,_,_,_,_,_,_,_,rfl,rfl,{ h with f15:=fun _=>rfl }⟩
       |16,ho,hli,hd=>obtain⟨rfl,rfl⟩:_∧b16=false:=Zqj ho hli;obtain rfl:b15=true:=Zqx 15 (by simp);obtain rfl:=h.f15 rfl;go_simp;exact hK _ _ ⟨_,_,_,_,_,_,_,_,_,_,_,_,_,_,_,_,_,_,_,_,_,_,_,_,_,_,_,_,_,_,_,_,_,_,rfl,rfl,{ h with f16:=fun _=>rfl }⟩
       |17,ho,hli,hd=>
        obtain⟨rfl,rfl⟩:_∧b17=false:=Zqj ho hli;obtain rfl:b16=true:=Zqx 16 (by simp);obtain rfl:b11=true:=Zqx 11 (by simp);obtain rfl:=h.f16 rfl
        obtain⟨u,q1,q2⟩:=h.row.at_ HX.out (j:=2) (by decide)
        obtain⟨A,l,c,rfl,h'⟩:=h.store17 HX.out hTX (by omega) hgX5 (by omega)
        simp only[minR]at q1 q2;go_simp;exact hK _ _ ⟨_,_,_,_,_,_,_,_,_,_,_,_,_,_,_,_,_,_,_,_,_,_,_,_,_,_,_,_,_,_,_,_,_,_,rfl,rfl,h'⟩
       |i+18,ho,hli,hd=>simp at ho
      case fin=>
       rintro listed a' w' ⟨b0,b1,b2,b3,b4,b5,b6,b7,b8,b9,b10,b11,b12,b13,b14,b15,b16,b17,u64,u65,u66,u67,u68,u69,u70,u71,u72,u73,u74,u75,u76,u77,u78,u79,rfl,rfl,h⟩ hr;obtain rfl:b0=true:=Zqn hr 0 rfl;obtain rfl:b1=true:=Zqn hr 1 rfl;obtain rfl:b2=true:=Zqn hr 2 rfl;obtain rfl:b3=true:=Zqn hr 3 rfl;obtain rfl:b4=true:=Zqn hr 4 rfl;obtain rfl:b5=true:=Zqn hr 5 rfl;obtain rfl:b6=true:=Zqn hr 6 rfl;obtain rfl:b7=true:=Zqn hr 7 rfl;obtain rfl:b8=true:=Zqn hr 8 rfl;obtain rfl:b9=true:=Zqn hr 9 rfl;obtain rfl:b10=true:=Zqn hr 10 rfl;obtain rfl:b11=true:=Zqn hr 11 rfl;obtain rfl:b12=true:=Zqn hr 12 rfl;obtain rfl:b13=true:=Zqn hr 13 rfl;obtain rfl:b14=true:=Zqn hr 14 rfl;obtain rfl:b15=true:=Zqn hr 15 rfl;obtain rfl:b16=true:=Zqn hr 16 rfl;obtain rfl:b17=true:=Zqn hr 17 rfl;clear hr;have hsW:=HSX.out.mins h.kp h.row;have hzW:=h.kp.size;obtain rfl:=h.f0 rfl;obtain rfl:=h.f1 rfl;obtain rfl:=h.f2 rfl;obtain rfl:=h.f3 rfl;obtain rfl:=h.f4 rfl;obtain rfl:=h.f5 rfl;obtain rfl:=h.f6 rfl;obtain rfl:=h.f7 rfl;obtain rfl:=h.f9 rfl;obtain rfl:=h.f10 rfl;obtain rfl:=h.f12 rfl;obtain rfl:=h.f13 rfl;obtain rfl:=h.f15 rfl;obtain rfl:=h.f16 rfl;clear h kbx ke1 ke2 hE5 hX5;have HSW:=Zq1 hsW;clear hsW;go_wp2_with fail;go_roundw;exact⟨j+1,by omega,by go_num,HSW.out,by omega⟩;simp[intOf];omega
     ·have HS:=Zq1 hs;clear hs
      obtain⟨p0,p1,p2,p3,p4,p5⟩:=pcells HS.out.bx
      go_wp2_with (refine wpList_store_row (by rfl) 27 _ _ (by rfl) (w.heap.size+1) #[.int .i64 p.n,.slice nA' nl nc',.slice sA' sl sc',.slice rA' rl rc',.slice mA' ml mc'] (by rfl) (by rfl) 27 _ HS.out.rs info_prog (by rfl) (by simp[Value.oneCell']) ?_)
      obtain⟨l1,l2,l3,l4,l5⟩:=HS.out.last HT1.out #[.int .i64 p.n,.slice nA' nl nc',.slice sA' sl sc',.slice rA' rl rc',.slice mA' ml mc']
      refine bodyPost_ret (results_cell_row rfl _ _ (w.heap.size+1) 27 _ (0,0) _ rfl (HS.out.rs.row _) Tryz.underlying27 rfl (by kernel_rfl)) rfl ?_
      exact⟨nA',nc',sA',sc',rA',rc',mA',mc',T,rfl,l1,fun q hq=>⟨(HTW.out q hq).1,by have:=(HTW.out q hq).2;simp;omega⟩,HTE.out,l2,l3,l4,l5⟩

/- G4 -/
import Derived.Test.YthdjkenhkedjjaaGreatG3
import Derived.Laws.EntriesVeiled
set_option maxRecDepth 100000
set_option maxHeartbeats 4000000
namespace Go.Proofs.YthdjkenhkedjjaaGreat
open Go.RowKit Go.Maps Go.WideMaps
def strL (s:ByteArray):Lit:=.string s.data.toList
theorem strL_key (s:ByteArray):WideAt.IsKeyLit (strL s):=trivial
theorem strL_inj {a b:ByteArray}(h:strL a=strL b):a=b:=by
 obtain⟨a⟩:=a;obtain⟨b⟩:=b
 unfold strL at h;injection h with h;simp only at h
 congr 1
 exact Array.ext' h
def hasS (s:ByteArray)(seen:List ByteArray):Bool:=seen.any (fun t=>decide (t=s))
theorem hasS_cons (s t:ByteArray)(r:List ByteArray):hasS s (t::r)=(decide (t=s) || hasS s r):=rfl
def namesGo (seen:List ByteArray):List ByteArray→Bool
 |[]=>true
 |s::r=>!(decide (200<s.size) || (nlB s || hasS s seen)) && namesGo (if s.size=0 then seen else s::seen) r
theorem namesGo_cons (seen:List ByteArray)(s:ByteArray)(r:List ByteArray):namesGo seen (s::r)=(!(decide (200<s.size) || (nlB s || hasS s seen)) && namesGo (if s.size=0 then seen else s::seen) r):=rfl
def namedB (p:GProg):Bool:=
 decide (0≤p.n) && decide (p.n≤4000) && decide ((p.names.length:Int)=p.n) && incB p.n p.shown && namesGo [] p.names
theorem named_any (p:GProg)(nA:OA)(nl nc:Nat)(sA:OA)(sl sc:Nat)(rA:OA)(rl rc:Nat)(mA:OA)(ml mc:Nat)(w:World)(hp:ProgIn w p nA nl nc sA sl sc rA rl rc mA ml mc):
  Calls Tryz.prog 43 #[.agg #[.int .i64 p.n,.slice nA nl nc,.slice sA sl sc,.slice rA rl rc,.slice mA ml mc]] w fun e w'=>e=.returned (.bool (namedB p))∧Below w.heap.size w w':=by
 have hnc:=hp.names.cap;have hnm:=hp.names.max;have hmm:=@run_makeMap Tryz.prog;have e1:=Zq1 hp.names.len;have HP:=Zq1 hp;clear hp
 by_cases h0:0≤p.n
 ·by_cases h1:p.n≤4000
  ·by_cases h2:((nl:Int) != p.n)=true
   ·go_enter Tryz.func43,Tryz.ntmps43;go_wp2_with fail;go_ret
    exact⟨ret_bool (by
              have h2':¬(p.names.length:Int)=p.n:=(by rw[← e1.out];simpa using h2);simp[namedB,h2']),bel_alloc _ _⟩
   ·have h2f:((nl:Int) != p.n)=false:=(by simpa using h2);have h2e:=Zq1 (show (nl:Int)=p.n by simpa using h2f);clear h2
    by_cases h3:incB p.n p.shown=true
    ·go_enter Tryz.func43,Tryz.ntmps43;go_wp2_with fail;go_fit (increasing_any _ _ _ _ _ _ (HP.out.shown.ext (bel_alloc _ _)) h0 h1);rintro e w1 ⟨rfl,hb1⟩;have hc1:=bcell hb1;have HB1:=Zq1 (bel_trans (bel_alloc _ _) hb1);have hz1:=bsz hb1;clear hb1;go_wp2_with fail;have hfin:namedB p=namesGo [] p.names:=(by unfold namedB;rw[← e1.out,h2e.out,h3];simp[h0,h1]);have HFIN:=Zq1 hfin;clear hfin;clear hc1;go_loopw [34] (fun i wr=>∃(k:Nat) (seen:List ByteArray) (f:Lit→Int),k≤nl∧i=.int .i64 k∧Below w.heap.size w wr∧IMap wr 9 w1.heap.size k f∧(∀s,decide (0<f (strL s))=hasS s seen)∧(∀s,0≤f (strL s)∧f (strL s)≤k)∧namedB p=namesGo seen (p.names.drop k)) (fun i _=>nl-(intOf i).toNat)
     case atStart=>exact⟨0,[],fun _=>0,Nat.zero_le _,rfl,HB1.out.alloc HB1.out.size _,IMap.new _ _,fun _=>rfl,by simp,HFIN.out⟩
     case round=>
      obtain⟨k,seen,f,hk,rfl,hbw,hown,hf,hfb,hs⟩:=hrel
      have H1:=Zq1 (HP.out.names.ext hbw)
      obtain⟨HBW,HF,HFB,HS,HOWN⟩:=Zq5 hbw hf hfb hs hown;clear hbw hf hfb hs hown
      by_cases hlt:k<nl
      ·obtain⟨s,hx,hd⟩:=H1.out.drop hlt
       obtain⟨b,off,rfl,_,hcell,hsm⟩:=H1.out.str hx
       obtain⟨HX,HD⟩:=Zq2 hx hd;clear hx hd
       have hcons:=Zq1 (namesGo_cons seen s (p.names.drop (k+1)))
       by_cases hsz:200<s.size
       ·go_wp2_with fail;go_ret
        exact⟨ret_bool (by rw[HS.out,HD.out,hcons.out];simp[hsz]),HBW.out⟩
       ·by_cases hnl:nlB s=true
        ·go_wp2_with fail;go_fit (contains_nl s wr);rintro e w' ⟨rfl,rfl⟩;go_wp2_with fail;go_ret
         exact⟨ret_bool (by rw[HS.out,HD.out,hcons.out];simp[hnl]),HBW.out⟩
        ·have hnl2:nlB s=false:=(by simpa using hnl);clear hnl;have hkey:keyOf Tryz.prog 9 (.string s)=some (strL s):=keyOf_string_mk Tryz.underlying9 hsm;have hlk:=HOWN.out.look key_str Tryz.underlying114 hkey (strL_key s);have hfs:=HF.out s;have hfb:=HFB.out s
         by_cases hin:hasS s seen=true
         ·rw[hin]at hfs;go_wp2_with fail;go_fit (contains_nl s wr);rintro e w' ⟨rfl,rfl⟩;go_wp2_with fail;go_ret
          exact⟨ret_bool (by rw[HS.out,HD.out,hcons.out,hin];simp),HBW.out⟩
         ·have hin2:hasS s seen=false:=(by simpa using hin);clear hin;rw[hin2]at hfs
          have hcons2:namedB p=namesGo (if s.size=0 then seen else s::seen) (p.names.drop (k+1)):=by
           rw[HS.out,HD.out,hcons.out,hin2,hnl2];simp[hsz]
          have HCONS2:=Zq1 hcons2;clear hcons2
          by_cases hem:s.size=0
          ·have hem2:=Zq1 hem;clear hem
           have hse:s=ByteArray.empty:=by
            obtain⟨⟨l⟩⟩:=s
            have h0:l.length=0:=hem2.out
            cases l with
            |nil=>rfl
            |cons a r=>simp at h0
           have HSE:=Zq1 hse;clear hse;have hle:s.toList=[]:=(by rw[ByteArray.toList_eq,HSE.out];rfl);have hle2:s.data.toList=[]:=(by rw[HSE.out];rfl);have hle3:s.toList.isEmpty=true:=(by rw[hle];rfl);go_wp2_with fail;go_fit (contains_nl s wr);rintro e w' ⟨rfl,rfl⟩;go_wp2_with fail;go_roundw;exact⟨k+1,seen,f,by omega,by go_num,HBW.out,HOWN.out.mono (by omega),HF.out,fun s=>by have:=HFB.out s;omega,by rw[HCONS2.out,if_pos hem2.out]⟩;simp[intOf];omega
          ·have hem2:=Zq1 hem;clear hem
           have hle3:s.toList.isEmpty=false:=by
            rw[ByteArray.toList_eq]
            obtain⟨⟨l⟩⟩:=s
            cases l with
            |nil=>exact absurd rfl hem2.out
            |cons a r=>rfl
           obtain⟨w',f',hput,hown',hfe,hfn,hgr⟩:=HOWN.out.put key_str Tryz.underlying114 hkey (strL_key s) (by unfold maxLen;omega) (f (strL s)+1) (WalkArith.wf_i64 (by omega))
           obtain⟨HOWN',HFE,HFN,HGR⟩:=Zq4 hown' hfe hfn hgr;clear hown' hfe hfn hgr
           go_wp2_with fail;go_fit (contains_nl s wr);rintro e w' ⟨rfl,rfl⟩;go_wp2_with fail;go_roundw
           case rel=>
            refine⟨k+1,s::seen,f',by omega,by go_num,HBW.out.grown HGR.out HBW.out.size (fun j hj=>by cases hj;exact HB1.out.size),HOWN'.out,fun s'=>?_,fun s'=>?_,by rw[HCONS2.out,if_neg hem2.out]⟩
            ·by_cases he:s'=s
             ·subst he;rw[HFE.out,decide_eq_true (by omega),hasS_cons,decide_eq_true rfl,Bool.true_or]
             ·rw[HFN.out _ (fun hh=>he (strL_inj hh)),HF.out s',hasS_cons,decide_eq_false (fun h=>he h.symm),Bool.false_or]
            ·by_cases he:s'=s
             ·subst he;rw[HFE.out];omega
             ·have:=HFB.out s'
              rw[HFN.out _ (fun hh=>he (strL_inj hh))];omega
           case measure=>simp[intOf];omega
      ·go_wp2;go_ret
       exact⟨ret_bool (by rw[HS.out,H1.out.stop (by omega)];rfl),HBW.out⟩
    ·have h3f:incB p.n p.shown=false:=(by simpa using h3);clear h3;go_enter Tryz.func43,Tryz.ntmps43;go_wp2_with fail;go_fit (increasing_any _ _ _ _ _ _ (HP.out.shown.ext (bel_alloc _ _)) h0 h1);rintro e w1 ⟨rfl,hb1⟩;have HB1:=Zq1 (bel_trans (bel_alloc _ _) hb1);clear hb1;go_wp2_with fail;go_ret
     exact⟨ret_bool (by simp[namedB,h3f]),HB1.out⟩
  ·go_enter Tryz.func43,Tryz.ntmps43;go_wp2_with fail;go_ret
   exact⟨ret_bool (by simp[namedB];omega),bel_alloc _ _⟩
 ·go_enter Tryz.func43,Tryz.ntmps43;go_wp2_with fail;go_ret
  exact⟨ret_bool (by simp[namedB];omega),bel_alloc _ _⟩
open Go.RowKit
def rulesE (n:Int):LG→Int
 |[]=>0
 |r::rs=>if ruleE r n=0 then rulesE n rs else ruleE r n
def minOk (n:Int)(m:GMin):Bool:=ordB n m.lits && wtB m.w m.lits.length && decide (-2147483647≤m.level) && decide (m.level≤2147483647)
def minGoE (n:Int)(prev:Option GMin):List GMin→Bool
 |[]=>true
 |m::r=>minOk n m && (match prev with | none=>true | some l=>decide (m.level<l.level)) && minGoE n (some m) r
theorem minGoE_cons (n:Int)(prev:Option GMin)(m:GMin)(r:List GMin):minGoE n prev (m::r)=(minOk n m && (match prev with | none=>true | some l=>decide (m.level<l.level)) && minGoE n (some m) r):=rfl
def validE (p:GProg):Int:=
 if namedB p=false then 170
 else if 40000<p.rules.length then 171
 else if rulesE p.n p.rules≠0 then rulesE p.n p.rules
 else if 8<p.min.length then 175
 else if minGoE p.n none p.min=false then 175
 else 0
theorem namedB_n {p:GProg}(h:namedB p=true):0≤p.n∧p.n≤4000:=by
 simp[namedB]at h;exact⟨h.1.1.1.1,h.1.1.1.2⟩
theorem valid_any (p:GProg)(nA:OA)(nl nc:Nat)(sA:OA)(sl sc:Nat)(rA:OA)(rl rc:Nat)(mA:OA)(ml mc:Nat)(w:World)(hp:ProgIn w p nA nl nc sA sl sc rA rl rc mA ml mc):
  Calls Tryz.prog 14 #[.agg #[.int .i64 p.n,.slice nA nl nc,.slice sA sl sc,.slice rA rl rc,.slice mA ml mc]] w fun e w'=>e=.returned (.int .i64 (validE p))∧Below w.heap.size w w':=by
 have hrc:=hp.rules.cap;have hrm:=hp.rules.max;have hmc:=hp.min.cap;have hmm:=hp.min.max;have e1:=Zq1 hp.rules.len;have e2:=Zq1 hp.min.len;have HP:=Zq1 hp;clear hp
 by_cases hnm:namedB p=true
 ·have hn:=namedB_n hnm
  by_cases h40:40000<rl
  ·go_enter Tryz.func14,Tryz.ntmps14;go_wp2_with fail;go_fit (named_any p _ _ _ _ _ _ _ _ _ _ _ _ _ (HP.out.ext (bel_alloc _ _)));rintro e w1 ⟨rfl,hb1⟩;have hc1:=bcell hb1;have HB1:=Zq1 (bel_trans (bel_alloc _ _) hb1);clear hb1;go_wp2_with fail;go_ret
   exact⟨ret_int (by unfold validE;rw[hnm,← e1.out];simp[h40]),HB1.out⟩
  ·go_enter Tryz.func14,Tryz.ntmps14;go_wp2_with fail;go_fit (named_any p _ _ _ _ _ _ _ _ _ _ _ _ _ (HP.out.ext (bel_alloc _ _)));rintro e w1 ⟨rfl,hb1⟩;have hc1:=bcell hb1;have hz1:=bsz hb1;have HB1:=Zq1 (bel_trans (bel_alloc _ _) hb1);clear hb1;go_wp2_with fail
   have hfin:validE p=(if rulesE p.n p.rules≠0 then rulesE p.n p.rules else if 8<p.min.length then 175 else if minGoE p.n none p.min=false then 175 else 0):=by
    unfold validE;rw[hnm,← e1.out,if_neg (by simp),if_neg (by omega)]
   have HFIN:=Zq1 hfin;clear hfin;have c0:w1.cell? ⟨w.heap.size,0,none⟩=some (.int .i64 p.n):=(by rw[hc1 _ _ (by simp)];simp);have c4:w1.cell? ⟨w.heap.size,4,none⟩=some (.slice mA ml mc):=(by rw[hc1 _ _ (by simp)];simp);clear hc1
   obtain⟨C0,C4⟩:=Zq2 c0 c4;clear c0 c4
   go_loopw [20] (fun i wr=>∃(k:Nat),k≤rl∧i=.int .i64 k∧Below w1.heap.size w1 wr∧rulesE p.n p.rules=rulesE p.n (p.rules.drop k)) (fun i _=>rl-(intOf i).toNat)
   case atStart=>exact⟨0,Nat.zero_le _,rfl,Below.refl _ _,rfl⟩
   case round=>
    obtain⟨k,hk,rfl,hbw,hs⟩:=hrel
    have H1:=Zq1 (HP.out.rules.ext (bel_trans HB1.out hbw));have d0:wr.cell? ⟨w.heap.size,0,none⟩=some (.int .i64 p.n):=(bcell hbw _ _ hz1).trans C0.out;have d4:wr.cell? ⟨w.heap.size,4,none⟩=some (.slice mA ml mc):=(bcell hbw _ _ hz1).trans C4.out;have hzr:w.heap.size<wr.heap.size:=Nat.lt_of_lt_of_le hz1 hbw.size;have HB:=Zq1 (bel_trans HB1.out hbw)
    obtain⟨HBW,HS⟩:=Zq2 hbw hs;clear hbw hs
    by_cases hlt:k<rl
    ·obtain⟨r,hx,hd⟩:=H1.out.drop hlt
     obtain⟨b,off,hA,hl,hc,bA,bl,bc,wA,wl,wc,rfl,_,f0,f1,f2,f3,f4,f5,g1,g2,g3,g4⟩:=H1.out.rule hx
     have HR:=Zq1 (show RuleIn wr r hA hl hc bA bl bc wA wl wc from⟨g1,g2,g3,g4⟩);clear g1 g2 g3 g4
     obtain⟨HX,HD⟩:=Zq2 hx hd;clear hx hd
     by_cases hre:ruleE r p.n=0
     ·have hre2:(ruleE r p.n != 0)=false:=(by simpa using hre);have HRE:=Zq1 hre;clear hre;go_wp2_with fail;go_fit (rule_any r _ _ _ _ _ _ _ _ _ p.n _ (HR.out.ext (bel_alloc _ _)));rintro e w2 ⟨rfl,hb2⟩;have HB2:=Zq1 (bel_trans HBW.out (bel_trans (bel_alloc _ _) hb2));clear hb2;go_wp2_with fail;go_roundw;exact⟨k+1,by omega,by go_num,HB2.out,by rw[HS.out,HD.out,rulesE,if_pos HRE.out]⟩;simp[intOf];omega
     ·have hre2:(ruleE r p.n != 0)=true:=(by simpa using hre);have HRE:=Zq1 hre;clear hre;go_wp2_with fail;go_fit (rule_any r _ _ _ _ _ _ _ _ _ p.n _ (HR.out.ext (bel_alloc _ _)));rintro e w2 ⟨rfl,hb2⟩;have HB2:=Zq1 (bel_trans HB.out (bel_trans (bel_alloc _ _) hb2));clear hb2;go_wp2_with fail;go_ret
      exact⟨ret_int (by rw[HFIN.out,HS.out,HD.out,rulesE,if_neg HRE.out,if_pos HRE.out]),HB2.out⟩
    ·have hfin2:validE p=(if 8<p.min.length then 175 else if minGoE p.n none p.min=false then 175 else 0):=by
      rw[HFIN.out,HS.out,H1.out.stop (by omega)];rfl
     have HFIN2:=Zq1 hfin2;clear hfin2
     by_cases h8:8<ml
     ·go_wp2_with fail;go_ret
      exact⟨ret_int (by rw[HFIN2.out,← e2.out,if_pos h8]),HB.out⟩
     ·go_wp2_with fail;have hfin3:validE p=(if minGoE p.n none p.min=false then 175 else 0):=(by rw[HFIN2.out,← e2.out,if_neg h8]);have D0:=Zq1 d0;have D4:=Zq1 d4;clear d0 d4;have HFIN3:=Zq1 hfin3;clear hfin3
      obtain⟨wo,rfl⟩:∃wo:World,wo=wr:=⟨_,rfl⟩
      go_loopw [39] (fun i wr'=>∃(k:Nat),k≤ml∧i=.int .i64 k∧Below wo.heap.size wo wr'∧minGoE p.n none p.min=minGoE p.n (prevAt p.min k) (p.min.drop k)) (fun i _=>ml-(intOf i).toNat)
      case atStart=>exact⟨0,Nat.zero_le _,rfl,Below.refl _ _,rfl⟩
      case round=>
       obtain⟨j,hj,rfl,hbw2,hs2⟩:=hrel
       have H2:=Zq1 (HP.out.min.ext (bel_trans HB.out hbw2));have d0:wr.cell? ⟨w.heap.size,0,none⟩=some (.int .i64 p.n):=(bcell hbw2 _ _ hzr).trans D0.out;have d4:wr.cell? ⟨w.heap.size,4,none⟩=some (.slice mA ml mc):=(bcell hbw2 _ _ hzr).trans D4.out;have hz2:w.heap.size<wr.heap.size:=Nat.lt_of_lt_of_le hzr hbw2.size;have hz4:w.heap.size<wr.heap.size+1:=(by omega);have HBR:=Zq1 (bel_trans HB.out hbw2)
       obtain⟨HBW2,HS2⟩:=Zq2 hbw2 hs2;clear hbw2 hs2
       by_cases hlt2:j<ml
       ·obtain⟨m,hx,hd⟩:=H2.out.drop hlt2
        obtain⟨b,off,bA,bl,bc,wA,wl,wc,rfl,hbz,f0,f1,f2,g2,g3,g4⟩:=H2.out.min hx
        have hbl:=Zq1 g3.len
        obtain⟨HX,HD,G2,G3,G4⟩:=Zq5 hx hd g2 g3 g4;clear hx hd g2 g3 g4
        have hbl2:=Zq1 hbl;clear hbl
        by_cases ho:ordB p.n m.lits=true
        ·by_cases hw:wtB m.w bl=true
         ·by_cases hl1:m.level < -2147483647
          ·have q1:decide (m.level < -2147483647)=true:=decide_eq_true hl1;go_wp2_with fail;refine wp_region_later [(⟨w.heap.size,0,none⟩,.int .i64 p.n),(⟨wr.heap.size,0,none⟩,.int .i64 m.level),(⟨wr.heap.size,1,none⟩,.slice bA bl bc),(⟨wr.heap.size,2,none⟩,.slice wA wl wc)] (by kernel_rfl) (by kernel_rfl) (by simp[go_sem, *]) ?_;intro hk;simp only[List.forall_mem_cons]at hk;obtain⟨k0,k1,k2,k3,k9⟩:=hk;clear k9
           repeat go_big_quiet_step ((first
            | (go_at_call 44;exact Calls.later (ordered_any _ _ _ _ _ _ (G3.out.ext (bel_trans (bel_alloc _ _) (Later.h _))) (by omega) (by omega)))
            | (go_at_call 45;exact Calls.later_same (weights_any _ _ _ _ _ _ (G4.out.ext (bel_trans (bel_alloc _ _) (Later.h _)))))))
           refine wpQuiet_nil ?_;rintro w2 ⟨u2,rfl⟩;have HU:=Zq1 (bel_trans (bel_alloc _ _) u2.h);clear k0 k1 k2 k3;go_wp2_with fail;go_ret
           exact⟨ret_int (by rw[HFIN3.out,HS2.out,HD.out,minGoE_cons];have:¬ -2147483647≤m.level:=(by omega);simp[minOk,this]),bel_trans HBR.out HU.out⟩
          ·have q1:decide (m.level < -2147483647)=false:=decide_eq_false hl1
           by_cases hl2:2147483647<m.level
           ·have q2:decide (2147483647<m.level)=true:=decide_eq_true hl2;go_wp2_with fail;refine wp_region_later [(⟨w.heap.size,0,none⟩,.int .i64 p.n),(⟨wr.heap.size,0,none⟩,.int .i64 m.level),(⟨wr.heap.size,1,none⟩,.slice bA bl bc),(⟨wr.heap.size,2,none⟩,.slice wA wl wc)] (by kernel_rfl) (by kernel_rfl) (by simp[go_sem, *]) ?_;intro hk;simp only[List.forall_mem_cons]at hk;obtain⟨k0,k1,k2,k3,k9⟩:=hk;clear k9
            repeat go_big_quiet_step ((first
             | (go_at_call 44;exact Calls.later (ordered_any _ _ _ _ _ _ (G3.out.ext (bel_trans (bel_alloc _ _) (Later.h _))) (by omega) (by omega)))
             | (go_at_call 45;exact Calls.later_same (weights_any _ _ _ _ _ _ (G4.out.ext (bel_trans (bel_alloc _ _) (Later.h _)))))))
            refine wpQuiet_nil ?_;rintro w2 ⟨u2,rfl⟩;have HU:=Zq1 (bel_trans (bel_alloc _ _) u2.h);clear k0 k1 k2 k3;go_wp2_with fail;go_ret
            exact⟨ret_int (by rw[HFIN3.out,HS2.out,HD.out,minGoE_cons];have:¬m.level≤2147483647:=(by omega);simp[minOk,this]),bel_trans HBR.out HU.out⟩
           ·have q2:decide (2147483647<m.level)=false:=decide_eq_false hl2
            have hok:minOk p.n m=true:=by
             have h1 : -2147483647≤m.level:=(by omega);have h2:m.level≤2147483647:=(by omega);have hw2:wtB m.w m.lits.length=true:=hbl2.out ▸ hw;simp[minOk,ho,hw2,h1,h2]
            have HOK:=Zq1 hok;clear hok
            by_cases hj0:j=0
            ·have q3:decide (0<(j:Int))=false:=decide_eq_false (by omega);have q5:decide (0<j)=false:=decide_eq_false (by omega);have HJ0:=Zq1 hj0;clear hj0;go_wp2_with fail;refine wp_region_later [(⟨w.heap.size,0,none⟩,.int .i64 p.n),(⟨wr.heap.size,0,none⟩,.int .i64 m.level),(⟨wr.heap.size,1,none⟩,.slice bA bl bc),(⟨wr.heap.size,2,none⟩,.slice wA wl wc)] (by kernel_rfl) (by kernel_rfl) (by simp[go_sem, *]) ?_;intro hk;simp only[List.forall_mem_cons]at hk;obtain⟨k0,k1,k2,k3,k9⟩:=hk;clear k9
             repeat go_big_quiet_step ((first
              | (go_at_call 44;exact Calls.later (ordered_any _ _ _ _ _ _ (G3.out.ext (bel_trans (bel_alloc _ _) (Later.h _))) (by omega) (by omega)))
              | (go_at_call 45;exact Calls.later_same (weights_any _ _ _ _ _ _ (G4.out.ext (bel_trans (bel_alloc _ _) (Later.h _)))))))
             refine wpQuiet_nil ?_;rintro w2 ⟨u2,rfl⟩;have HU:=Zq1 (bel_trans (bel_alloc _ _) u2.h);clear k0 k1 k2 k3;go_wp2_with fail;go_roundw;exact⟨j+1,by omega,by go_num,bel_trans HBW2.out HU.out,by rw[HS2.out,HD.out,minGoE_cons,prevAt_succ,HX.out];rw[HOK.out,HJ0.out];rfl⟩;simp[intOf];omega
            ·obtain⟨i,rfl⟩:∃i,j=i+1:=⟨j-1,by omega⟩
             have q3:decide (0<(i:Int)+1)=true:=decide_eq_true (by omega);have q5:decide (0<i+1)=true:=decide_eq_true (by omega);have q4:IntKind.i64.wrap ((i:Int)+1-1)=i:=(by rw[IntWalk.i64_in _ (by omega)];omega)
             obtain⟨pl,hpx,_⟩:=H2.out.drop (k:=i) (by omega)
             obtain⟨b',off',_,_,_,_,_,_,he,_,p0,_,_,_,_,_⟩:=H2.out.min hpx
             cases he;have HPX:=Zq1 hpx;clear hpx
             by_cases hlv:pl.level≤m.level
             ·have q6:decide (pl.level≤m.level)=true:=decide_eq_true hlv;go_wp2_with fail;refine wp_region_later [(⟨w.heap.size,0,none⟩,.int .i64 p.n),(⟨wr.heap.size,0,none⟩,.int .i64 m.level),(⟨wr.heap.size,1,none⟩,.slice bA bl bc),(⟨wr.heap.size,2,none⟩,.slice wA wl wc),(⟨w.heap.size,4,none⟩,.slice (some ⟨b,off,none⟩) ml mc),(⟨b,off+i*3,none⟩,.int .i64 pl.level)] (by kernel_rfl) (by kernel_rfl) (by simp[go_sem, *]) ?_;intro hk;simp only[List.forall_mem_cons]at hk;obtain⟨k0,k1,k2,k3,k4,k5,k9⟩:=hk;clear k9
              repeat go_big_quiet_step ((first
               | (go_at_call 44;exact Calls.later (ordered_any _ _ _ _ _ _ (G3.out.ext (bel_trans (bel_alloc _ _) (Later.h _))) (by omega) (by omega)))
               | (go_at_call 45;exact Calls.later_same (weights_any _ _ _ _ _ _ (G4.out.ext (bel_trans (bel_alloc _ _) (Later.h _)))))))
              refine wpQuiet_nil ?_;rintro w2 ⟨u2,rfl⟩;have HU:=Zq1 (bel_trans (bel_alloc _ _) u2.h);clear k0 k1 k2 k3 k4 k5;go_wp2_with fail;go_ret
              exact⟨ret_int (by rw[HFIN3.out,HS2.out,HD.out,minGoE_cons,prevAt_succ,HPX.out];have:¬m.level<pl.level:=(by omega);simp[this]),bel_trans HBR.out HU.out⟩
             ·have q6:decide (pl.level≤m.level)=false:=decide_eq_false hlv;go_wp2_with fail;refine wp_region_later [(⟨w.heap.size,0,none⟩,.int .i64 p.n),(⟨wr.heap.size,0,none⟩,.int .i64 m.level),(⟨wr.heap.size,1,none⟩,.slice bA bl bc),(⟨wr.heap.size,2,none⟩,.slice wA wl wc),(⟨w.heap.size,4,none⟩,.slice (some ⟨b,off,none⟩) ml mc),(⟨b,off+i*3,none⟩,.int .i64 pl.level)] (by kernel_rfl) (by kernel_rfl) (by simp[go_sem, *]) ?_;intro hk;simp only[List.forall_mem_cons]at hk;obtain⟨k0,k1,k2,k3,k4,k5,k9⟩:=hk;clear k9
              repeat go_big_quiet_step ((first
               | (go_at_call 44;exact Calls.later (ordered_any _ _ _ _ _ _ (G3.out.ext (bel_trans (bel_alloc _ _) (Later.h _))) (by omega) (by omega)))
               | (go_at_call 45;exact Calls.later_same (weights_any _ _ _ _ _ _ (G4.out.ext (bel_trans (bel_alloc _ _) (Later.h _)))))))
              refine wpQuiet_nil ?_;rintro w2 ⟨u2,rfl⟩;have HU:=Zq1 (bel_trans (bel_alloc _ _) u2.h);clear k0 k1 k2 k3 k4 k5;go_wp2_with fail;go_roundw;exact⟨i+1+1,by omega,by go_num,bel_trans HBW2.out HU.out,by rw[HS2.out,HD.out,minGoE_cons,prevAt_succ,prevAt_succ,HX.out,HPX.out,HOK.out];have:m.level<pl.level:=(by omega);simp[this]⟩;simp[intOf];omega
         ·have hwf:wtB m.w bl=false:=(by simpa using hw);clear hw;go_wp2_with fail;refine wp_region_later [(⟨w.heap.size,0,none⟩,.int .i64 p.n),(⟨wr.heap.size,0,none⟩,.int .i64 m.level),(⟨wr.heap.size,1,none⟩,.slice bA bl bc),(⟨wr.heap.size,2,none⟩,.slice wA wl wc)] (by kernel_rfl) (by kernel_rfl) (by simp[go_sem, *]) ?_;intro hk;simp only[List.forall_mem_cons]at hk;obtain⟨k0,k1,k2,k3,k9⟩:=hk;clear k9
          repeat go_big_quiet_step ((first
           | (go_at_call 44;exact Calls.later (ordered_any _ _ _ _ _ _ (G3.out.ext (bel_trans (bel_alloc _ _) (Later.h _))) (by omega) (by omega)))
           | (go_at_call 45;exact Calls.later_same (weights_any _ _ _ _ _ _ (G4.out.ext (bel_trans (bel_alloc _ _) (Later.h _)))))))
          refine wpQuiet_nil ?_;rintro w2 ⟨u2,rfl⟩;have HU:=Zq1 (bel_trans (bel_alloc _ _) u2.h);clear k0 k1 k2 k3;go_wp2_with fail;go_ret
          exact⟨ret_int (by rw[HFIN3.out,HS2.out,HD.out,minGoE_cons];have hw2:wtB m.w m.lits.length=false:=hbl2.out ▸ hwf;simp[minOk,hw2]),bel_trans HBR.out HU.out⟩
        ·have hof:ordB p.n m.lits=false:=(by simpa using ho);clear ho;go_wp2_with fail;refine wp_region_later [(⟨w.heap.size,0,none⟩,.int .i64 p.n),(⟨wr.heap.size,0,none⟩,.int .i64 m.level),(⟨wr.heap.size,1,none⟩,.slice bA bl bc),(⟨wr.heap.size,2,none⟩,.slice wA wl wc)] (by kernel_rfl) (by kernel_rfl) (by simp[go_sem, *]) ?_;intro hk;simp only[List.forall_mem_cons]at hk;obtain⟨k0,k1,k2,k3,k9⟩:=hk;clear k9
         repeat go_big_quiet_step ((first
          | (go_at_call 44;exact Calls.later (ordered_any _ _ _ _ _ _ (G3.out.ext (bel_trans (bel_alloc _ _) (Later.h _))) (by omega) (by omega)))
          | (go_at_call 45;exact Calls.later_same (weights_any _ _ _ _ _ _ (G4.out.ext (bel_trans (bel_alloc _ _) (Later.h _)))))))
         refine wpQuiet_nil ?_;rintro w2 ⟨u2,rfl⟩;have HU:=Zq1 (bel_trans (bel_alloc _ _) u2.h);clear k0 k1 k2 k3;go_wp2_with fail;go_ret
         exact⟨ret_int (by rw[HFIN3.out,HS2.out,HD.out,minGoE_cons];simp[minOk,hof]),bel_trans HBR.out HU.out⟩
       ·go_wp2_with fail;go_ret
        exact⟨ret_int (by rw[HFIN3.out,HS2.out,H2.out.stop (by omega)];rfl),HBR.out⟩
 ·have hnf:namedB p=false:=by simpa using hnm
  clear hnm;go_enter Tryz.func14,Tryz.ntmps14;go_wp2_with fail;go_fit (named_any p _ _ _ _ _ _ _ _ _ _ _ _ _ (HP.out.ext (bel_alloc _ _)));rintro e w1 ⟨rfl,hb1⟩;have HB1:=Zq1 (bel_trans (bel_alloc _ _) hb1);clear hb1;go_wp2_with fail;go_ret
  exact⟨ret_int (by unfold validE;rw[hnf];rfl),HB1.out⟩
open Go.RowKit
def fewB (p:GProg):Bool:=
 decide (p.n≤12) && decide (p.names.length≤12) && decide (p.shown.length≤12) && decide (p.rules.length≤16) && decide (p.min.length≤6) &&
  (p.names.all (fun s=>decide (s.size≤40)) && (p.rules.all (fun r=>decide (r.head.length+r.body.length+r.w.length≤36)) && p.min.all (fun m=>decide (m.lits.length+m.w.length≤24))))
theorem few_any (p:GProg)(nA:OA)(nl nc:Nat)(sA:OA)(sl sc:Nat)(rA:OA)(rl rc:Nat)(mA:OA)(ml mc:Nat)(w:World)(hp:ProgIn w p nA nl nc sA sl sc rA rl rc mA ml mc):
  Calls Tryz.prog 12 #[.agg #[.int .i64 p.n,.slice nA nl nc,.slice sA sl sc,.slice rA rl rc,.slice mA ml mc]] w fun e w'=>e=.returned (.bool (fewB p))∧Below w.heap.size w w':=by
 have e1:=Zq1 hp.names.len;have e2:=Zq1 hp.shown.len;have e3:=Zq1 hp.rules.len;have e4:=Zq1 hp.min.len;have HP:=Zq1 hp;clear hp
 by_cases h5:p.n≤12∧nl≤12∧sl≤12∧rl≤16∧ml≤6
 ·obtain⟨h1,h2,h3,h4,h5⟩:=h5
  have hfin:fewB p=(p.names.all (fun s=>decide (s.size≤40)) && (p.rules.all (fun r=>decide (r.head.length+r.body.length+r.w.length≤36)) && p.min.all (fun m=>decide (m.lits.length+m.w.length≤24)))):=by
   unfold fewB;rw[← e1.out,← e2.out,← e3.out,← e4.out];simp[h1,h2,h3,h4,h5]
  have HFIN:=Zq1 hfin;clear hfin;go_enter Tryz.func12,Tryz.ntmps12;go_wp2;have hnm:=HP.out.names.max;have hnc:=HP.out.names.cap;go_loop [39] (fun i=>∃k:Nat,k≤nl∧i=.int .i64 k∧p.names.all (fun s=>decide (s.size≤40))=(p.names.drop k).all (fun s=>decide (s.size≤40))) (fun i=>nl-(intOf i).toNat)
  case atStart=>exact⟨0,Nat.zero_le _,rfl,rfl⟩
  case round=>
   obtain⟨k,hk,rfl,hs⟩:=hrel
   have HS:=Zq1 hs;clear hs
   by_cases hlt:k<nl
   ·obtain⟨x,hx,hd⟩:=HP.out.names.drop hlt
    obtain⟨b,off,rfl,hbz,hcell,hsm⟩:=HP.out.names.str hx
    obtain⟨HX,HD⟩:=Zq2 hx hd;clear hx hd
    by_cases h6:40<x.size
    ·go_wp2;go_ret
     exact⟨ret_bool (by rw[HFIN.out,HS.out,HD.out,List.all_cons,decide_eq_false (by omega)];rfl),bel_alloc _ _⟩
    ·go_wp2;go_round
     case rel=>exact⟨k+1,by omega,by go_num,by rw[HS.out,HD.out,List.all_cons,decide_eq_true (by omega),Bool.true_and]⟩
     case measure=>simp[intOf];omega
   ·have hfin2:fewB p=(p.rules.all (fun r=>decide (r.head.length+r.body.length+r.w.length≤36)) && p.min.all (fun m=>decide (m.lits.length+m.w.length≤24))):=by
     rw[HFIN.out,HS.out,HP.out.names.stop (by omega)];rfl
    have HFIN2:=Zq1 hfin2;clear hfin2;have hrm:=HP.out.rules.max;have hrc:=HP.out.rules.cap;go_wp2;generalize hWW:w.alloc (.cells #[.int .i64 p.n,.slice nA nl nc,.slice sA sl sc,.slice rA rl rc,.slice mA ml mc] 27)=W0 at *;have hB0:Below w.heap.size w W0:=(by rw[← hWW];exact bel_alloc _ _);have hz0:w.heap.size<W0.heap.size:=(by rw[← hWW];simp);have c4:W0.cell? ⟨w.heap.size,4,none⟩=some (.slice mA ml mc):=(by rw[← hWW];simp);clear hWW
    obtain⟨HB0,C4⟩:=Zq2 hB0 c4;clear hB0 c4
    go_loopw [50] (fun i wr=>∃k:Nat,k≤rl∧i=.int .i64 k∧Below W0.heap.size W0 wr∧p.rules.all (fun r=>decide (r.head.length+r.body.length+r.w.length≤36))=(p.rules.drop k).all (fun r=>decide (r.head.length+r.body.length+r.w.length≤36))) (fun i _=>rl-(intOf i).toNat)
    case atStart=>exact⟨0,Nat.zero_le _,rfl,Below.refl _ _,rfl⟩
    case round=>
     obtain⟨k,hk,rfl,hbw,hs⟩:=hrel
     have H1:=Zq1 (HP.out.rules.ext (bel_trans HB0.out hbw));have HBW:=Zq1 hbw;have d4:wr.cell? ⟨w.heap.size,4,none⟩=some (.slice mA ml mc):=(bcell hbw _ _ hz0).trans C4.out;have hzr:w.heap.size<wr.heap.size:=Nat.lt_of_lt_of_le hz0 hbw.size;clear hbw;have HS:=Zq1 hs;clear hs
     by_cases hlt:k<rl
     ·obtain⟨r,hx,hd⟩:=H1.out.drop hlt
      obtain⟨b,off,hA,hl,hc,bA,bl,bc,wA,wl,wc,rfl,_,f0,f1,f2,f3,f4,f5,g1,g2,g3,g4⟩:=H1.out.rule hx
      have s1:=g1.small;have s2:=g3.small;have s3:=g4.small;have l1:=Zq1 g1.len;have l2:=Zq1 g3.len;have l3:=Zq1 g4.len
      obtain⟨HX,HD,G1,G2,G3,G4⟩:=Zq6 hx hd g1 g2 g3 g4;clear hx hd g1 g2 g3 g4
      by_cases h6:hl+bl+wl≤36
      ·go_wp2;go_roundw;exact⟨k+1,by omega,by go_num,HBW.out.alloc HBW.out.size _,by rw[HS.out,HD.out,List.all_cons,← l1.out,← l2.out,← l3.out,decide_eq_true h6,Bool.true_and]⟩;simp[intOf];omega
      ·go_wp2;go_ret
       exact⟨ret_bool (by rw[HFIN2.out,HS.out,HD.out,List.all_cons,← l1.out,← l2.out,← l3.out,decide_eq_false h6];rfl),bel_trans HB0.out (HBW.out.alloc HBW.out.size _)⟩
     ·have hfin3:fewB p=p.min.all (fun m=>decide (m.lits.length+m.w.length≤24)):=by
       rw[HFIN2.out,HS.out,H1.out.stop (by omega)];rfl
      have HFIN3:=Zq1 hfin3;clear hfin3;have hmm:=HP.out.min.max;have hmc:=HP.out.min.cap;go_wp2
      obtain⟨wo,rfl⟩:∃wo:World,wo=wr:=⟨_,rfl⟩
      go_loopw [70] (fun i wr=>∃k:Nat,k≤ml∧i=.int .i64 k∧Below wo.heap.size wo wr∧p.min.all (fun m=>decide (m.lits.length+m.w.length≤24))=(p.min.drop k).all (fun m=>decide (m.lits.length+m.w.length≤24))) (fun i _=>ml-(intOf i).toNat)
      case atStart=>exact⟨0,Nat.zero_le _,rfl,Below.refl _ _,rfl⟩
      case round=>
       obtain⟨j,hj,rfl,hbw2,hs2⟩:=hrel
       have hb3:=bel_trans (bel_trans HB0.out HBW.out) hbw2;have H2:=Zq1 (HP.out.min.ext hb3)
       obtain⟨HS2,HBW2,HB3⟩:=Zq3 hs2 hbw2 hb3;clear hs2 hbw2 hb3
       by_cases hlt2:j<ml
       ·obtain⟨m,hx,hd⟩:=H2.out.drop hlt2
        obtain⟨b,off,bA,bl,bc,wA,wl,wc,rfl,hbz,f0,f1,f2,g2,g3,g4⟩:=H2.out.min hx
        have s2:=g3.small;have s3:=g4.small;have l2:=Zq1 g3.len;have l3:=Zq1 g4.len
        obtain⟨HX,HD,G2,G3,G4⟩:=Zq5 hx hd g2 g3 g4;clear hx hd g2 g3 g4
        by_cases h6:bl+wl≤24
        ·go_wp2;go_roundw;exact⟨j+1,by omega,by go_num,HBW2.out.alloc HBW2.out.size _,by rw[HS2.out,HD.out,List.all_cons,← l2.out,← l3.out,decide_eq_true h6,Bool.true_and]⟩;simp[intOf];omega
        ·go_wp2;go_ret
         exact⟨ret_bool (by rw[HFIN3.out,HS2.out,HD.out,List.all_cons,← l2.out,← l3.out,decide_eq_false h6];rfl),HB3.out.alloc HB3.out.size _⟩
       ·go_wp2;go_ret
        exact⟨ret_bool (by rw[HFIN3.out,HS2.out,H2.out.stop (by omega)];rfl),HB3.out⟩
 ·have hneg:fewB p=false:=by
   unfold fewB;rw[← e1.out,← e2.out,← e3.out,← e4.out,Bool.eq_false_iff];intro h;simp only[Bool.and_eq_true,decide_eq_true_eq]at h;omega
  obtain⟨HNEG,H5⟩:=Zq2 hneg h5;clear hneg h5
  go_enter Tryz.func12,Tryz.ntmps12;go_wp2
  all_goals first
   | (go_ret;exact⟨ret_bool HNEG.out.symm,bel_alloc _ _⟩)
   | (exfalso;have:=H5.out;omega)
open Go.RowKit Go.Maps Go.WideMaps
theorem satisfied_any (r:GRule)(hA:OA)(hl hc:Nat)(bA:OA)(bl bc:Nat)(wA:OA)(wl wc:Nat)(a:Nat)(ms:LI)(w:World)(hr:RuleIn w r hA hl hc bA bl bc wA wl wc)(hm:MemIn w a ms)(ok:BodyOk r):
  Calls Tryz.prog 99 #[.agg #[.bool r.choice,.slice hA hl hc,.bool r.sum,.int .i64 r.bound,.slice bA bl bc,.slice wA wl wc],.func (.func 117) #[] #[.pointer (some ⟨a,0,none⟩)]] w fun e w'=>e=.returned (.bool (satB r ms))∧Below w.heap.size w w':=by
 have hsat:satB r ms=(r.choice || !bodyB r ms || r.head.any (fun a=>decide (a∈ms))):=rfl;have cB:=fun W (hb:Below w.heap.size w W)=>body_any r hA hl hc bA bl bc wA wl wc a ms W (hr.ext hb) (hm.ext hb) ok
 have cH:=fun W (hb:Below w.heap.size w W)=>containsFuncI_any hA hl hc r.head 117 #[.pointer (some ⟨a,0,none⟩)] (fun x=>decide (x∈ms)) W (hr.head.ext hb) (fun args W=>by kernel_rfl)
   (fun W' x hb' _ hx64=>(memberF_any x a ms W' (hm.ext (bel_trans hb hb')) hx64).mono fun e w' ⟨h1,h2⟩=>⟨h1,by rw[h2];exact Below.refl _ _⟩)
 generalize bodyB r ms=q at *;generalize r.head.any (fun x=>decide (x∈ms))=q2 at *
 obtain⟨HR,HM,OK,HSAT⟩:=Zq4 hr hm ok hsat;clear hr hm ok hsat
 by_cases hch:r.choice=true
 ·rw[hch]at HSAT ⊢;clear cB cH;have HCH:=Zq1 hch;clear hch;go_enter Tryz.func99,Tryz.ntmps99;go_wp2_with fail;go_ret
  exact⟨ret_bool (by rw[HSAT.out];rfl),bel_alloc _ _⟩
 ·have hcf:r.choice=false:=by simpa using hch
  clear hch;rw[hcf]at HSAT ⊢;simp only[hcf]at cB;have HCF:=Zq1 hcf;clear hcf;cases q
  ·obtain⟨CB,CH⟩:=Zq2 cB cH;clear cB cH
   go_enter Tryz.func99,Tryz.ntmps99;go_wp2_with fail;go_fit (CB.out _ (bel_alloc _ _));rintro e w1 ⟨rfl,hb1⟩;have HB1:=Zq1 (bel_trans (bel_alloc _ _) hb1);clear hb1;go_wp2_with fail;go_ret
   exact⟨ret_bool (by rw[HSAT.out];rfl),HB1.out⟩
  ·obtain⟨CB,CH⟩:=Zq2 cB cH;clear cB cH
   go_enter Tryz.func99,Tryz.ntmps99;go_wp2_with fail;go_fit (CB.out _ (bel_alloc _ _));rintro e w1 ⟨rfl,hb1⟩;have hc1:=bcell hb1;have HB1:=Zq1 (bel_trans (bel_alloc _ _) hb1);clear hb1;go_wp2_with fail;go_fit (CH.out _ HB1.out);rintro e w2 ⟨rfl,hb2⟩;have HB2:=Zq1 (bel_trans HB1.out hb2);clear hb2;go_wp2_with fail;go_ret
   exact⟨ret_bool (by rw[HSAT.out];simp),HB2.out⟩
theorem brokenF_any (r:GRule)(hA:OA)(hl hc:Nat)(bA:OA)(bl bc:Nat)(wA:OA)(wl wc:Nat)(a b:Nat)(ms:LI)(w:World)(hr:RuleIn w r hA hl hc bA bl bc wA wl wc)(hm:MemIn w a ms)(ok:BodyOk r)(hb:w.cell? ⟨b,0,none⟩=some (.func (.func 117) #[] #[.pointer (some ⟨a,0,none⟩)])):
  Calls Tryz.prog 98 #[.agg #[.bool r.choice,.slice hA hl hc,.bool r.sum,.int .i64 r.bound,.slice bA bl bc,.slice wA wl wc],.pointer (some ⟨b,0,none⟩)] w fun e w'=>e=.returned (.bool (!satB r ms))∧Below w.heap.size w w':=by
 have cS:=fun W (hb:Below w.heap.size w W)=>satisfied_any r hA hl hc bA bl bc wA wl wc a ms W (hr.ext hb) (hm.ext hb) ok;have hbl:=World.block_lt_of_cell? w _ hb;simp only at hbl
 obtain⟨HR,HM,OK,CS⟩:=Zq4 hr hm ok cS;clear hr hm ok cS
 go_enter Tryz.func98,Tryz.ntmps98;go_wp2_with fail;go_fit (CS.out _ (bel_alloc _ _));rintro e w1 ⟨rfl,hb1⟩;have HB1:=Zq1 (bel_trans (bel_alloc _ _) hb1);clear hb1;go_wp2_with fail;go_ret
 exact⟨rfl,HB1.out⟩
def checkE (p:GProg)(m:LI):Int:=if validE p≠0 then validE p else if incB p.n m=false then 2 else 0
theorem check_any (p:GProg)(nA:OA)(nl nc:Nat)(sA:OA)(sl sc:Nat)(rA:OA)(rl rc:Nat)(mA:OA)(ml mc:Nat)(xA:OA)(xl xc:Nat)(m:LI)(w:World)(hp:ProgIn w p nA nl nc sA sl sc rA rl rc mA ml mc)(hm:SlIs intR w xA xl xc m):
  Calls Tryz.prog 70 #[.agg #[.int .i64 p.n,.slice nA nl nc,.slice sA sl sc,.slice rA rl rc,.slice mA ml mc],.slice xA xl xc] w fun e w'=>e=.returned (.int .i64 (checkE p m))∧Below w.heap.size w w':=by
 have cV:=fun W (hb:Below w.heap.size w W)=>valid_any p nA nl nc sA sl sc rA rl rc mA ml mc W (hp.ext hb);have cS:=fun W (hb:Below w.heap.size w W)=>set_any xA xl xc m p.n W (hm.ext hb);have hce:checkE p m=if validE p≠0 then validE p else if incB p.n m=false then 2 else 0:=rfl;generalize validE p=v at *;generalize incB p.n m=q at *
 obtain⟨HP,HM,CV,CS,HCE⟩:=Zq5 hp hm cV cS hce;clear hp hm cV cS hce
 by_cases hv:v=0
 ·have q1:(v != 0)=false:=by simpa using hv
  have HV:=Zq1 hv;clear hv;cases q
  all_goals
   go_enter Tryz.func70,Tryz.ntmps70;go_wp2_with fail;go_fit (CV.out _ (bel_alloc _ _));rintro e w1 ⟨rfl,hb1⟩;have hc1:=bcell hb1;have HB1:=Zq1 (bel_trans (bel_alloc _ _) hb1);clear hb1;go_wp2_with fail;go_fit (CS.out _ HB1.out);rintro e w' ⟨rfl,rfl⟩;go_wp2_with fail;go_ret
   exact⟨ret_int (by rw[HCE.out,HV.out];rfl),HB1.out⟩
 ·have q1:(v != 0)=true:=by simpa using hv
  have HV:=Zq1 hv;clear hv;go_enter Tryz.func70,Tryz.ntmps70;go_wp2_with fail;go_fit (CV.out _ (bel_alloc _ _));rintro e w1 ⟨rfl,hb1⟩;have HB1:=Zq1 (bel_trans (bel_alloc _ _) hb1);clear hb1;go_wp2_with fail;go_ret
  exact⟨ret_int (by rw[HCE.out,if_pos HV.out]),HB1.out⟩
theorem rulesE_mem {n:Int}:∀{rs:LG},rulesE n rs=0→∀r∈rs,ruleE r n=0
 |[],_,r,hr=>by simp at hr
 |x::rs,h,r,hr=>by
  unfold rulesE at h
  by_cases h0:ruleE x n=0
  ·rw[if_pos h0]at h;rcases List.mem_cons.1 hr with rfl | hr
   ·exact h0
   ·exact rulesE_mem h r hr
  ·rw[if_neg h0]at h;exact absurd h h0
structure ProgIs (p:GProg):Prop where
 named:namedB p=true
 few:p.rules.length≤40000
 rules:∀r∈p.rules,RuleIs r p.n
 mins:p.min.length≤8
 min:minGoE p.n none p.min=true
theorem validE_is {p:GProg}(h:validE p=0):ProgIs p:=by
 unfold validE at h
 split at h
 ·cases h
 ·split at h
  ·cases h
  ·split at h
   ·rename_i hr;exact absurd h hr
   ·split at h
    ·cases h
    ·split at h
     ·cases h
     ·rename_i h1 h2 h3 h4 h5
      refine⟨by simpa using h1,by omega,fun r hr=>ruleE_is (rulesE_mem (by simpa using h3) r hr),by omega,by simpa using h5⟩
theorem checkE_is {p:GProg}{m:LI}(h:checkE p m=0):ProgIs p∧incB p.n m=true:=by
 unfold checkE at h
 split at h
 ·rename_i h1;exact absurd h h1
 ·split at h
  ·cases h
  ·rename_i h1 h2;exact⟨validE_is (by simpa using h1),by simpa using h2⟩
def brokenI (p:GProg)(m:LI):Int:=idxGo (fun r=>!satB r m) 0 p.rules
theorem broken_any (p:GProg)(nA:OA)(nl nc:Nat)(sA:OA)(sl sc:Nat)(rA:OA)(rl rc:Nat)(mA:OA)(ml mc:Nat)(xA:OA)(xl xc:Nat)(m:LI)(w:World)(hp:ProgIn w p nA nl nc sA sl sc rA rl rc mA ml mc)(hm:SlIs intR w xA xl xc m):
  Calls Tryz.prog 53 #[.agg #[.int .i64 p.n,.slice nA nl nc,.slice sA sl sc,.slice rA rl rc,.slice mA ml mc],.slice xA xl xc] w fun e w'=>e=.returned (.tuple #[.int .i64 (if checkE p m=0 then brokenI p m else 0),.int .i64 (checkE p m)])∧Below w.heap.size w w':=by
 have cC:=fun W (hb:Below w.heap.size w W)=>check_any p nA nl nc sA sl sc rA rl rc mA ml mc xA xl xc m W (hp.ext hb) (hm.ext hb)
 by_cases hv:checkE p m=0
 ·have hok:=(checkE_is hv).1.rules;have cM:=fun W (hb:Below w.heap.size w W)=>member_any xA xl xc m W (hm.ext hb)
  have cI:=fun W (a b:Nat) (hb:Below w.heap.size w W) (hmi:MemIn W a m) (hcell:W.cell? ⟨b,0,none⟩=some (.func (.func 117) #[] #[.pointer (some ⟨a,0,none⟩)]))=>
   indexFuncR_any rA rl rc p.rules 98 #[.pointer (some ⟨b,0,none⟩)] (fun r=>!satB r m) W (hp.rules.ext hb) (fun args W=>by kernel_rfl)
    (fun W' x _ _ _ _ _ _ _ _ _ hb' hx hr=>brokenF_any x _ _ _ _ _ _ _ _ _ a b m W' hr (hmi.ext hb') (hok x hx).ok ((hb'.cell (World.block_lt_of_cell? W _ hcell)).trans hcell))
  have hbi:idxGo (fun r=>!satB r m) 0 p.rules=brokenI p m:=rfl;simp only[hbi]at cI;rw[if_pos hv];rw[hv]at cC ⊢;generalize brokenI p m=q at *;clear hv hbi
  obtain⟨HP,HM,CC,CM,CI,HOK⟩:=Zq6 hp hm cC cM cI hok;clear hp hm cC cM cI hok
  go_enter Tryz.func53,Tryz.ntmps53;go_wp2_with fail;go_fit (CC.out _ (bel_alloc _ _));rintro e w1 ⟨rfl,hb1⟩;have hc1:=bcell hb1;have hz1:=bsz hb1;have HB1:=Zq1 (bel_trans (bel_alloc _ _) hb1);clear hb1;go_wp2_with fail;go_fit (CM.out _ HB1.out);rintro e w2 ⟨a,rfl,hmi,hb2⟩;have hc2:=bcell hb2;have hz2:w.heap.size<w2.heap.size:=Nat.lt_of_lt_of_le hz1 hb2.size;have HB2:=Zq1 (bel_trans HB1.out hb2);have HMI:=Zq1 hmi;clear hb2 hmi;go_wp2_with fail;go_fit (CI.out _ a w2.heap.size (HB2.out.alloc HB2.out.size _) (HMI.out.ext (bel_alloc _ _)) (by simp));rintro e w3 ⟨rfl,hb3⟩;have HB3:=Zq1 (bel_trans (HB2.out.alloc HB2.out.size _) hb3);clear hb3;go_wp2_with fail;go_ret2
  exact⟨rfl,HB3.out⟩
 ·rw[if_neg hv];generalize checkE p m=v at *;have q1:(v != 0)=true:=by simpa using hv
  obtain⟨HV,CC,HP,HM⟩:=Zq4 hv cC hp hm;clear hv cC hp hm
  go_enter Tryz.func53,Tryz.ntmps53;go_wp2_with fail;go_fit (CC.out _ (bel_alloc _ _));rintro e w1 ⟨rfl,hb1⟩;have HB1:=Zq1 (bel_trans (bel_alloc _ _) hb1);clear hb1;go_wp2_with fail;go_ret2
  exact⟨rfl,HB1.out⟩
def modelB (p:GProg)(m:LI):Bool:=p.rules.all (fun r=>satB r m)
theorem brokenI_neg (p:GProg)(m:LI):decide (brokenI p m<0)=modelB p m:=by
 have h:=idxGo_any (fun r=>!satB r m) p.rules 0 (by omega);unfold brokenI modelB;rw[← any_not,← h];rw[Bool.eq_iff_iff];simp
theorem models_any (p:GProg)(nA:OA)(nl nc:Nat)(sA:OA)(sl sc:Nat)(rA:OA)(rl rc:Nat)(mA:OA)(ml mc:Nat)(xA:OA)(xl xc:Nat)(m:LI)(w:World)(hp:ProgIn w p nA nl nc sA sl sc rA rl rc mA ml mc)(hm:SlIs intR w xA xl xc m):
  Calls Tryz.prog 19 #[.agg #[.int .i64 p.n,.slice nA nl nc,.slice sA sl sc,.slice rA rl rc,.slice mA ml mc],.slice xA xl xc] w fun e w'=>e=.returned (.tuple #[.bool (decide (checkE p m=0) && modelB p m),.int .i64 (checkE p m)])∧Below w.heap.size w w':=by
 have cB:=fun W (hb:Below w.heap.size w W)=>broken_any p nA nl nc sA sl sc rA rl rc mA ml mc xA xl xc m W (hp.ext hb) (hm.ext hb);have hneg:=brokenI_neg p m;generalize brokenI p m=q at *;generalize modelB p m=mb at *;generalize checkE p m=v at *
 by_cases hv:v=0
 ·subst hv;simp only[if_true]at cB;rw[decide_eq_true rfl,Bool.true_and]
  by_cases h0:q<0
  ·have hmb:mb=true:=by rw[← hneg,decide_eq_true h0]
   subst hmb;have q1:decide (q<0)=true:=decide_eq_true h0;clear hneg
   obtain⟨HP,HM,CB⟩:=Zq3 hp hm cB;clear hp hm cB
   go_enter Tryz.func19,Tryz.ntmps19;go_wp2_with fail;go_fit (CB.out _ (bel_alloc _ _));rintro e w1 ⟨rfl,hb1⟩;have HB1:=Zq1 (bel_trans (bel_alloc _ _) hb1);clear hb1;go_wp2_with fail;go_ret2
   exact⟨rfl,HB1.out⟩
  ·have hmb:mb=false:=by rw[← hneg,decide_eq_false h0]
   subst hmb;have q1:decide (q<0)=false:=decide_eq_false h0;clear hneg
   obtain⟨HP,HM,CB⟩:=Zq3 hp hm cB;clear hp hm cB
   go_enter Tryz.func19,Tryz.ntmps19;go_wp2_with fail;go_fit (CB.out _ (bel_alloc _ _));rintro e w1 ⟨rfl,hb1⟩;have HB1:=Zq1 (bel_trans (bel_alloc _ _) hb1);clear hb1;go_wp2_with fail;go_ret2
   exact⟨rfl,HB1.out⟩
 ·have q1:(v==0)=false:=by simpa using hv
  rw[decide_eq_false hv,Bool.false_and];simp only[if_neg hv]at cB
  obtain⟨HP,HM,CB,HNEG,HV⟩:=Zq5 hp hm cB hneg hv;clear hp hm cB hneg hv
  go_enter Tryz.func19,Tryz.ntmps19;go_wp2_with fail;go_fit (CB.out _ (bel_alloc _ _));rintro e w1 ⟨rfl,hb1⟩;have HB1:=Zq1 (bel_trans (bel_alloc _ _) hb1);clear hb1;go_wp2_with fail;go_ret2
  exact⟨rfl,HB1.out⟩
open Go.RowKit Go.Maps Go.WideMaps
theorem defNeg_any (x:Int)(w:World):
  Calls Tryz.prog 140 #[.int .i64 x] w fun e w'=>e=.returned (.bool (decide (x<0)))∧w=w':=by
 go_enter Tryz.func140,Tryz.ntmps140;go_wp2
 all_goals go_ret
 all_goals exact⟨ret_bool (by first | exact(decide_eq_true (by omega)).symm | exact(decide_eq_false (by omega)).symm | rfl),rfl⟩
theorem defR_not (n:Int)(r:GRule):(!defR n r)=(!decide (ruleE r n=0) || (r.choice || (!decide (r.head.length≤1) || r.body.any (fun x=>decide (x<0))))):=by
 have h:(!r.body.all (fun x=>decide (0≤x)))=r.body.any (fun x=>decide (x<0)):=by
  rw[List.not_all_eq_any_not]
  congr 1;funext x
  rw[Bool.eq_iff_iff];simp
 unfold defR;rw[Bool.not_and,Bool.not_and,Bool.not_and,h,Bool.not_not,Bool.or_assoc,Bool.or_assoc]
theorem definiteF_any (r:GRule)(hA:OA)(hl hc:Nat)(bA:OA)(bl bc:Nat)(wA:OA)(wl wc:Nat)(n:Int)(b:Nat)(w:World)(hr:RuleIn w r hA hl hc bA bl bc wA wl wc)(hb:w.cell? ⟨b,0,none⟩=some (.int .i64 n)):
  Calls Tryz.prog 139 #[.agg #[.bool r.choice,.slice hA hl hc,.bool r.sum,.int .i64 r.bound,.slice bA bl bc,.slice wA wl wc],.pointer (some ⟨b,0,none⟩)] w fun e w'=>e=.returned (.bool (!defR n r))∧Below w.heap.size w w':=by
 have cR:=fun W (hb:Below w.heap.size w W)=>rule_any r hA hl hc bA bl bc wA wl wc n W (hr.ext hb)
 have cB:=fun W (hb:Below w.heap.size w W)=>containsFuncI_any bA bl bc r.body 140 #[] (fun x=>decide (x<0)) W (hr.body.ext hb) (fun args W=>by kernel_rfl)
   (fun W' x _ _ _=>(defNeg_any x W').mono fun e w' ⟨h1,h2⟩=>⟨h1,by rw[h2];exact Below.refl _ _⟩)
 have hfin:=defR_not n r;have hhl:=hr.head.len;rw[← hhl]at hfin;have hbl:=World.block_lt_of_cell? w _ hb;simp only at hbl;generalize ruleE r n=v at *;generalize r.body.any (fun x=>decide (x<0))=q at *
 obtain⟨HR,HFIN,HHL⟩:=Zq3 hr hfin hhl;clear hr hfin hhl
 by_cases hv:v=0
 ·have q1:(v != 0)=false:=by simpa using hv
  have HV:=Zq1 hv;clear hv
  by_cases hch:r.choice=true
  ·rw[hch]at HFIN ⊢;simp only[hch]at cR
   obtain⟨HCH,CR,CB⟩:=Zq3 hch cR cB;clear hch cR cB
   go_enter Tryz.func139,Tryz.ntmps139;go_wp2_with fail;go_fit (CR.out _ (bel_alloc _ _));rintro e w1 ⟨rfl,hb1⟩;have hc1:=bcell hb1;have HB1:=Zq1 (bel_trans (bel_alloc _ _) hb1);clear hb1;go_wp2_with fail;go_ret
   exact⟨ret_bool (by rw[HFIN.out];simp),HB1.out⟩
  ·have hcf:r.choice=false:=by simpa using hch
   clear hch;rw[hcf]at HFIN ⊢;simp only[hcf]at cR;have HCF:=Zq1 hcf;clear hcf
   by_cases h1:1<hl
   ·obtain⟨CR,CB⟩:=Zq2 cR cB;clear cR cB
    go_enter Tryz.func139,Tryz.ntmps139;go_wp2_with fail;go_fit (CR.out _ (bel_alloc _ _));rintro e w1 ⟨rfl,hb1⟩;have hc1:=bcell hb1;have HB1:=Zq1 (bel_trans (bel_alloc _ _) hb1);clear hb1;go_wp2_with fail;go_ret
    exact⟨ret_bool (by rw[HFIN.out,decide_eq_false (show ¬hl≤1 by omega)];simp),HB1.out⟩
   ·have q5:decide ((1:Int)<(hl:Int))=false:=decide_eq_false (by omega);have q6:decide (1<hl)=false:=decide_eq_false (by omega)
    have hq:(!defR n r)=q:=by
     rw[HFIN.out,HV.out,decide_eq_true (show hl≤1 by omega)];simp
    obtain⟨CR,CB,HQ⟩:=Zq3 cR cB hq;clear cR cB hq
    go_enter Tryz.func139,Tryz.ntmps139;go_wp2_with fail;go_fit (CR.out _ (bel_alloc _ _));rintro e w1 ⟨rfl,hb1⟩;have hc1:=bcell hb1;have HB1:=Zq1 (bel_trans (bel_alloc _ _) hb1);clear hb1;go_wp2_with fail;go_fit (CB.out _ HB1.out);rintro e w2 ⟨rfl,hb2⟩;have HB2:=Zq1 (bel_trans HB1.out hb2);clear hb2;go_wp2_with fail;go_ret
    exact⟨ret_bool HQ.out.symm,HB2.out⟩
 ·have q1:(v != 0)=true:=by simpa using hv
  obtain⟨HV,CR,CB⟩:=Zq3 hv cR cB;clear hv cR cB
  go_enter Tryz.func139,Tryz.ntmps139;go_wp2_with fail;go_fit (CR.out _ (bel_alloc _ _));rintro e w1 ⟨rfl,hb1⟩;have HB1:=Zq1 (bel_trans (bel_alloc _ _) hb1);clear hb1;go_wp2_with fail;go_ret
  exact⟨ret_bool (by rw[HFIN.out,decide_eq_false HV.out];rfl),HB1.out⟩
theorem definite_any (rA:OA)(rl rc:Nat)(rs:LG)(n:Int)(w:World)(h:SlIs ruleR w rA rl rc rs):
  Calls Tryz.prog 118 #[.int .i64 n,.slice rA rl rc] w fun e w'=>e=.returned (.bool (defB n rs))∧Below w.heap.size w w':=by
 have lr:=Zq1 h.len
 have cI:=fun W (b:Nat) (hb:Below w.heap.size w W) (hcell:W.cell? ⟨b,0,none⟩=some (.int .i64 n))=>
   containsFuncR_any rA rl rc rs 139 #[.pointer (some ⟨b,0,none⟩)] (fun r=>!defR n r) W (h.ext hb) (fun args W=>by kernel_rfl)
    (fun W' x _ _ _ _ _ _ _ _ _ hb' _ hr=>definiteF_any x _ _ _ _ _ _ _ _ _ n b W' hr ((hb'.cell (World.block_lt_of_cell? W _ hcell)).trans hcell))
 have hall:=any_not (defR n) rs;generalize rs.any (fun r=>!defR n r)=q at *
 by_cases hc:0≤n∧n≤4000∧rl≤40000
 ·obtain⟨h0,h1,h2⟩:=hc
  have hfin:defB n rs = !q:=by unfold defB;rw[← lr.out,hall];simp[h0,h1,h2]
  obtain⟨H,HFIN,HALL,CI⟩:=Zq4 h hfin hall cI;clear h hfin hall cI
  go_enter Tryz.func118,Tryz.ntmps118;go_wp2_with fail;go_fit (CI.out _ w.heap.size (bel_alloc _ _) (by simp));rintro e w1 ⟨rfl,hb1⟩;have HB1:=Zq1 (bel_trans (bel_alloc _ _) hb1);clear hb1;go_wp2_with fail;go_ret
  exact⟨ret_bool HFIN.out.symm,HB1.out⟩
 ·have hneg:defB n rs=false:=by
   unfold defB;rw[← lr.out,Bool.eq_false_iff];intro hh;simp only[Bool.and_eq_true,decide_eq_true_eq]at hh;omega
  obtain⟨HNEG,HC,H,CI,HALL⟩:=Zq5 hneg hc h cI hall;clear hneg hc h cI hall
  go_enter Tryz.func118,Tryz.ntmps118;go_wp2_with fail
  all_goals first
   | (go_ret;exact⟨ret_bool HNEG.out.symm,bel_alloc _ _⟩)
   | (exfalso;have:=HC.out;omega)

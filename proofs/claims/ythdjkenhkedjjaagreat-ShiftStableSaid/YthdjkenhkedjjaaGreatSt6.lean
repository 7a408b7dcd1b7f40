/- St6 -/
import Derived.Test.YthdjkenhkedjjaaGreatG5
namespace Go.Proofs.YthdjkenhkedjjaaGreat
theorem pick_inj:∀{m:LI},m.Nodup→∀{b b':Nat},b<2 ^ m.length→b'<2 ^ m.length→pickL m b=pickL m b'→b=b'
 |[],_,b,b',h1,h2,_=>by simp at h1 h2;omega
 |a::t,hn,b,b',h1,h2,he=>by
  rw[List.nodup_cons]at hn;rw[List.length_cons,Nat.pow_succ]at h1 h2;have hno:∀k,a∉pickL t k:=fun k h=>hn.1 ((pickL_sub t k).subset h);unfold pickL at he
  by_cases c1:b % 2=1
  ·by_cases c2:b' % 2=1
   ·rw[if_pos c1,if_pos c2]at he
    have:=pick_inj hn.2 (b:=b / 2) (b':=b' / 2) (by omega) (by omega) (by simpa using he)
    omega
   ·rw[if_pos c1,if_neg c2]at he;exact absurd (by rw[← he];simp) (hno (b' / 2))
  ·by_cases c2:b' % 2=1
   ·rw[if_neg c1,if_pos c2]at he;exact absurd (by rw[he];simp) (hno (b / 2))
   ·rw[if_neg c1,if_neg c2]at he
    have:=pick_inj hn.2 (b:=b / 2) (b':=b' / 2) (by omega) (by omega) he
    omega
theorem nodup_map_on {α β:Type}{f:α→β}:∀{l:List α},l.Nodup→(∀x∈l,∀y∈l,f x=f y→x=y)→(l.map f).Nodup
 |[],_,_=>by simp
 |x::r,h,hf=>by
  rw[List.nodup_cons]at h;rw[List.map_cons,List.nodup_cons]
  refine⟨fun hm=>?_,nodup_map_on h.2 fun a ha b hb=>hf a (by simp[ha]) b (by simp[hb])⟩
  obtain⟨y,hy,e⟩:=List.mem_map.1 hm
  have:=hf x (by simp) y (by simp[hy]) e.symm
  subst this;exact h.1 hy
theorem subs_nodup {m:LI}(hm:m.Nodup):(subsL m).Nodup:=
 nodup_map_on List.nodup_range fun _ hx _ hy e=>pick_inj hm (List.mem_range.1 hx) (List.mem_range.1 hy) e
theorem subs_mem (m s:LI):s∈subsL m↔s.Sublist m:=by
 unfold subsL;rw[List.mem_map];constructor
 ·rintro⟨b,_,rfl⟩;exact pickL_sub m b
 ·intro h
  obtain⟨b,hb,e⟩:=sub_pick h
  exact⟨b,List.mem_range.2 hb,e⟩
theorem pair_nodup2 {m:LI}(h:m.Pairwise (· < ·)):m.Nodup:=h.imp fun hab e=>by omega
theorem all_perm (p:GProg){ys:List (LI)}(hp:ys.Perm ((subsL (atomsL p.n.toNat)).filter (isL p)))(hs:ys.Pairwise fun a b=>lexLt b a=false):ys=allL p:=by
 have hnd:ys.Nodup:=hp.nodup_iff.2 ((subs_nodup (pair_nodup2 (atoms_pair _))).filter _)
 have hst:ys.Pairwise fun a b=>lexLt a b=true:=by
  refine(hs.and hnd).imp ?_
  rintro a b ⟨h1,h2⟩;rcases lexLt_total a b h2 with h | h
  ·exact h
  ·rw[h1]at h;cases h
 refine lex_ext hst (all_sorted p) fun x=>?_;rw[hp.mem_iff];unfold allL;rw[List.mem_filter,List.mem_filter,subs_mem,lexS_mem]

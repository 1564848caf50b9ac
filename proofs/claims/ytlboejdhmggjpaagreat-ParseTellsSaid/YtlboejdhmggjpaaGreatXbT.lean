import Derived.Test.YtlboejdhmggjpaaGreatXbQ
set_option linter.all false
namespace Go.Proofs.YtlboejdhmggjpaaGreat.Pp.Dr
set_option maxRecDepth 100000
set_option maxHeartbeats 1600000
open Go.RowKit Go.BigFrame Go.Proofs.YtlboejdhmggjpaaGreat
def De:Option (Option Tr)→Tr×Bool
 |some (some y)=>(y,true)
 |some none=>(zT,true)
 |none=>(zT,false)
theorem kF.zero{T:Nat→Prop}{w:World}:kF T w zT [.int .i64 0, .int .i64 0, .int .i64 0, .slice none 0 0, .slice none 0 0]:=⟨_,_,[],rfl,Rw.nil,rfl,Rw.nil⟩
def M6(S:Nat→Prop)(L:List Ct)(t:Tr)(w:World)(e:Ending)(w':World):Prop:=∃g',e= .returned (.tuple #[.agg g'.toArray, .bool (De (dG L t)).2])∧Below w.heap.size w w'∧kF S w' (De (dG L t)).1 g'
theorem aeR{S:Nat→Prop}{gb:Nat}{L:List Ct}{vr:Value}{k lo hi:Nat}{ds:List Sd}{w:World}{g:List Value}(hG:GB w gb L vr)(ht:kF S w (.mk k lo hi [] ds) g)(hlo:lo≤100000):Calls Tryz.prog 166 #[gP gb, .agg g.toArray] w (M6 S L (.mk k lo hi [] ds) w):=by
 obtain⟨vk,vd,gs,rfl,h1,h2,h3⟩:=ht
 obtain rfl:gs=[]:=h2
 obtain⟨a,kk,c,rfl⟩:=h1.aj
 obtain⟨ad,kd,cd,rfl⟩:=Rw.aj h3
 obtain rfl:kk=0:=h1.len.1
 obtain⟨z,hz⟩:∃z,dJ L lo [42]=z:=⟨_,rfl⟩
 have hn:De (dG L (.mk k lo hi [] ds))=(zT,z):=by unfold dG;rw[hz];cases z<;>rfl
 have HN:=π hn
 have HZ:=π hz
 obtain⟨m0,hm⟩:∃m,w.heap.size=m:=⟨_,rfl⟩
 have HM:=π hm
 have hb1:=ag w (.cells #[.int .i64 k, .int .i64 lo, .int .i64 hi, .slice a 0 c, .slice ad kd cd] 35)
 have hb2:=hb1.alloc hb1.size (.cells #[.int .i64 0, .int .i64 0, .int .i64 0, .slice none 0 0, .slice none 0 0] 35)
 have B1:=π (rR (l7 hm (.cells #[.int .i64 k, .int .i64 lo, .int .i64 hi, .slice a 0 c, .slice ad kd cd] 35)) #[.int .i64 0, .int .i64 0, .int .i64 0, .slice none 0 0, .slice none 0 0] 35)
 clear hn hz
 go_enter Tryz.func166,Tryz.ntmps166
 obtain⟨K0,pW⟩:∃K0,K0=bodyPost Tryz.prog Tryz.f166 (M6 S L (.mk k lo hi [] ds) w):=⟨_,rfl⟩
 rw[←pW]
 have je:=π pW
 clear pW
 go_wp2_with fail
 refine(rY (hG.ext hb2) lo hlo [42] ζ ζ).mono ?_
 rintro e w2 ⟨rfl,hb3⟩
 rw[HZ.out]
 have hB:=aF hb3 B1.out (ψ.1 B1.out).1
 obtain⟨c0,c1,c2,c3,c4⟩:=fQ hB
 have z0:=gQ hB 0
 have z1:=gQ hB 1
 have z2:=gQ hB 2
 have z3:=gQ hB 3
 have z4:=gQ hB 4
 clear hB
 go_wp2_with fail
 rw[je.out]
 have hbf:=um (m:=m0+1) (hb2.trans (hb3.mono hb2.size)) η (.int .i64 0) (.int .i64 0) (.int .i64 0) (.slice none 0 0) (.slice none 0 0)
 refine abw (v:= .tuple #[.agg [.int .i64 0, .int .i64 0, .int .i64 0, .slice none 0 0, .slice none 0 0].toArray, .bool z]) (by simp[results,Tryz.results166,go_sem,c0,c1,c2,c3,c4]) rfl ⟨_,by rw[HN.out],hbf,by rw[HN.out];exact kF.zero⟩
theorem M7{S:Nat→Prop}{gb:Nat}{L:List Ct}{vr:Value}:∀(t:Tr) (w:World) (g:List Value),(∀b,S b→b<w.heap.size)→GB w gb L vr→kF S w t g→TB t→Calls Tryz.prog 166 #[gP gb, .agg g.toArray] w (M6 S L t w)
 | .mk k lo hi [] ds,w,g,hS,hG,ht,hb=>aeR hG ht hb.1
 | .mk k lo hi (x::r) ds,w,g,hS,hG,ht,hb=>by
   have IH:=M7 (S:=S) (gb:=gb) (L:=L) (vr:=vr) x;obtain⟨vk,vd,gs,rfl,h1,h2,h3⟩:=ht;have hks:l5 S w vk (x::r):=⟨gs,h1,h2⟩;obtain⟨a,kk,c,rfl⟩:=h1.aj;obtain⟨ad,kd,cd,rfl⟩:=Rw.aj h3;obtain⟨h0k,b0,Ox,tK,sK,uK,tD,sD,uD,rfl,d0,hx⟩:=hks.first ν;rw[show(x::r).headD zT=x from rfl]at d0 hx
   have hkk:kk=r.length+1:=by rw[h1.len.1,h2.len];rfl
   have e0:decide ((0:Int)<(kk:Int))=true:=by rw[abC];omega
   have HKK:=π hkk;clear hkk;obtain⟨m0,hm⟩:∃m,w.heap.size=m:=⟨_,rfl⟩;have HM:=π hm;have hb1:=ag w (.cells #[.int .i64 k, .int .i64 lo, .int .i64 hi, .slice (some ⟨b0,Ox,none⟩) kk c, .slice ad kd cd] 35);have hb2:=hb1.alloc hb1.size (.cells #[.int .i64 0, .int .i64 0, .int .i64 0, .slice none 0 0, .slice none 0 0] 35);have B0:=π (CX (rR hm #[.int .i64 k, .int .i64 lo, .int .i64 hi, .slice (some ⟨b0,Ox,none⟩) kk c, .slice ad kd cd] 35) (.cells #[.int .i64 0, .int .i64 0, .int .i64 0, .slice none 0 0, .slice none 0 0] 35));have B1:=π (rR (l7 hm (.cells #[.int .i64 k, .int .i64 lo, .int .i64 hi, .slice (some ⟨b0,Ox,none⟩) kk c, .slice ad kd cd] 35)) #[.int .i64 0, .int .i64 0, .int .i64 0, .slice none 0 0, .slice none 0 0] 35);have D0:=π d0;have d1:=d0 ⟨_,hb2⟩;dsimp only[df.w]at d1;clear d0;by_cases AZ:x.k=14
   case neg=>
    have e1:((x.k:Int)==14)=false:=by rw[aat];omega
    have hn:De (dG L (.mk k lo hi (x::r) ds))=(x,true):=by unfold dG;rw[χ AZ];rfl
    have HN:=π hn;clear hn AZ IH
    go_enter Tryz.func166,Tryz.ntmps166
    obtain⟨K0,pW⟩:∃K0,K0=bodyPost Tryz.prog Tryz.f166 (M6 S L (.mk k lo hi (x::r) ds) w):=⟨_,rfl⟩;rw[←pW];have je:=π pW;clear pW
    go_wp2_with fail
    rw[je.out];have hbf:=hb1.alloc hb1.size (.cells #[.int .i64 x.k, .int .i64 x.lo, .int .i64 x.hi, .slice tK sK uK, .slice tD sD uD] 35);obtain⟨c0,c1,c2,c3,c4⟩:=fQ (rR (l7 hm (.cells #[.int .i64 k, .int .i64 lo, .int .i64 hi, .slice (some ⟨b0,Ox,none⟩) kk c, .slice ad kd cd] 35)) #[.int .i64 x.k, .int .i64 x.lo, .int .i64 x.hi, .slice tK sK uK, .slice tD sD uD] 35);refine abw (v:= .tuple #[.agg [.int .i64 x.k, .int .i64 x.lo, .int .i64 x.hi, .slice tK sK uK, .slice tD sD uD].toArray, .bool true]) (by simp[results,Tryz.results166,go_sem,c0,c1,c2,c3,c4]) rfl ⟨_,by rw[HN.out],hbf,by rw[HN.out];exact hx.to (.below hbf)⟩
   case pos=>
    have e14:(x.k:Int)=14:=by omega
    rw[e14]at d1 hx;clear e14;obtain⟨N,hN⟩:∃N,De (dG L x)=N:=⟨_,rfl⟩;obtain⟨nt,nb⟩:=N;have MQ:=π (IH _ _ (fun b h=>abB (hS b h) hb2.size) (hG.ext hb2) (hx.to (.below hb2)) hb.2.2.1);have HNx:=π hN;clear hN IH
    go_enter Tryz.func166,Tryz.ntmps166
    obtain⟨K0,pW⟩:∃K0,K0=bodyPost Tryz.prog Tryz.f166 (M6 S L (.mk k lo hi (x::r) ds) w):=⟨_,rfl⟩;rw[←pW];have je:=π pW;clear pW
    go_wp2_with fail
    refine MQ.out.mono ?_;rintro e w2 ⟨g',rfl,hb3,hr⟩;rw[HNx.out]at hr⊢;obtain⟨gK,oK,vK,gD,oD,vD,rfl, -⟩:=kF.aj hr;have hbw:=hb2.trans (hb3.mono hb2.size);have hb4:=ag w2 (.cells #[.int .i64 nt.k, .int .i64 nt.lo, .int .i64 nt.hi, .slice gK oK vK, .slice gD oD vD] 35);have hB:=aF hb4 (aF hb3 B1.out (ψ.1 B1.out).1) (ψ.1 (aF hb3 B1.out (ψ.1 B1.out).1)).1;have hB0:=aF hb4 (aF hb3 B0.out (ψ.1 B0.out).1) (ψ.1 (aF hb3 B0.out (ψ.1 B0.out).1)).1;obtain⟨c0,c1,c2,c3,c4⟩:=fQ hB;obtain⟨f0,f1,f2,f3,f4⟩:=fQ hB0;have z0:=gQ hB 0;have z1:=gQ hB 1;have z2:=gQ hB 2;have z3:=gQ hB 3;have z4:=gQ hB 4;clear hB hB0 d1;have H14:=π AZ;clear AZ
    have hlen:m0+2≤w2.heap.size:=by have h1:=hb3.size;have:=HM.out;simp at h1;omega
    have hbk:=hbw.trans (hb4.mono hbw.size);have hto:To S w2 S (w2.alloc (.cells #[.int .i64 nt.k, .int .i64 nt.lo, .int .i64 nt.hi, .slice gK oK vK, .slice gD oD vD] 35)):= .below hb4
    have hS5:∀b,S b→b<(w2.alloc (.cells #[.int .i64 nt.k, .int .i64 nt.lo, .int .i64 nt.hi, .slice gK oK vK, .slice gD oD vD] 35)).heap.size→S b∧b≠m0+1:=fun b h _=>⟨h,by have:=hS b h;omega⟩
    cases nb with
    |true=>
     have hn:De (dG L (.mk k lo hi (x::r) ds))=(nt,true):=by
      have h1:=HNx.out;unfold dG;rw[ω H14.out]
      cases e:dG L x with
      |none=>rw[e]at h1;cases h1
      |some y=>rw[e]at h1;exact h1
     have HN:=π hn;clear hn
     go_wp2_with fail
     rw[je.out];have hbf:=um (m:=m0+1) hbk η (.int .i64 nt.k) (.int .i64 nt.lo) (.int .i64 nt.hi) (.slice gK oK vK) (.slice gD oD vD);refine abw (v:= .tuple #[.agg [.int .i64 nt.k, .int .i64 nt.lo, .int .i64 nt.hi, .slice gK oK vK, .slice gD oD vD].toArray, .bool true]) (by simp[results,Tryz.results166,go_sem,c0,c1,c2,c3,c4]) rfl ⟨_,by rw[HN.out],hbf,by rw[HN.out];exact hr.to (hto.trans (To.IW _ _ _ _ _ hS5))⟩
    |false=>
     have hnn:dG L x=none:=by
      have h1:=HNx.out
      cases e:dG L x with
      |none=>rfl
      |some y=>rw[e]at h1;cases y<;>cases h1
     have J9:=π hnn;clear hnn
     cases r with
     |nil=>
      obtain rfl:kk=1:=HKK.out;obtain⟨z,hz⟩:∃z,dJ L lo [42]=z:=⟨_,rfl⟩
      have hn:De (dG L (.mk k lo hi [x] ds))=(zT,z):=by unfold dG;rw[ω H14.out,J9.out];dsimp only;rw[hz];cases z<;>rfl
      have HN:=π hn;have HZ:=π hz;clear hn hz
      go_wp2_with fail
      refine(rY (hG.ext hbk) lo hb.1 [42] ζ ζ).mono ?_;rintro e w5 ⟨rfl,hb5⟩;rw[HZ.out];have hC:=aF hb5 (aF hb4 (aF hb3 B1.out (ψ.1 B1.out).1) (ψ.1 (aF hb3 B1.out (ψ.1 B1.out).1)).1) (by have:=hb4.size;omega);clear c0 c1 c2 c3 c4 z0 z1 z2 z3 z4 f0 f1 f2 f3 f4;obtain⟨c0,c1,c2,c3,c4⟩:=fQ hC;have z0:=gQ hC 0;have z1:=gQ hC 1;have z2:=gQ hC 2;have z3:=gQ hC 3;have z4:=gQ hC 4;clear hC
      go_wp2_with fail
      rw[je.out];have hbf:=um (m:=m0+1) (hbk.trans (hb5.mono hbk.size)) η (.int .i64 0) (.int .i64 0) (.int .i64 0) (.slice none 0 0) (.slice none 0 0);refine abw (v:= .tuple #[.agg [.int .i64 0, .int .i64 0, .int .i64 0, .slice none 0 0, .slice none 0 0].toArray, .bool z]) (by simp[results,Tryz.results166,go_sem,c0,c1,c2,c3,c4]) rfl ⟨_,by rw[HN.out],hbf,by rw[HN.out];exact kF.zero⟩
     |cons y r2=>
      obtain⟨gy,gy1,hgy⟩:=h2.get 1 ν;obtain⟨yK,nK,qK,yD,nD,qD,rfl, -⟩:=kF.aj hgy;obtain⟨-,b1,axR,e, -,hl,hc⟩:=h1.get gy1;cases e;have hcb:=dX.below hc hbk hl;have d0:=hcb 0 _ rfl;have d1:=hcb 1 _ rfl;have d2:=hcb 2 _ rfl;have d3:=hcb 3 _ rfl;have d4:=hcb 4 _ rfl
      have hn:De (dG L (.mk k lo hi (x::y::r2) ds))=(y,true):=by unfold dG;rw[ω H14.out,J9.out];rfl
      have HN:=π hn
      have e5:decide ((1:Int)<(kk:Int))=true:=by have:=HKK.out;rw[abC];simp at this;omega
      have hk1:1<kk:=by have:=HKK.out;simp at this;omega
      clear hn hcb hc
      go_wp2_with fail
      rw[je.out];have hbf:=um (m:=m0+1) hbk η (.int .i64 y.k) (.int .i64 y.lo) (.int .i64 y.hi) (.slice yK nK qK) (.slice yD nD qD);refine abw (v:= .tuple #[.agg [.int .i64 y.k, .int .i64 y.lo, .int .i64 y.hi, .slice yK nK qK, .slice yD nD qD].toArray, .bool true]) (by simp[results,Tryz.results166,go_sem,c0,c1,c2,c3,c4]) rfl ⟨_,by rw[HN.out],hbf,by rw[HN.out];exact(kF.to (.below hb2) hgy).to (((To.below (hb3.mono (υ _))).trans hto).trans (To.IW _ _ _ _ _ hS5))⟩
end Go.Proofs.YtlboejdhmggjpaaGreat.Pp.Dr

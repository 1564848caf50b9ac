import Derived.Test.YtlboejdhmggjpaaGreatXaP
set_option linter.all false
namespace Go.Proofs.YtlboejdhmggjpaaGreat.Pp.Dr
set_option maxRecDepth 100000
set_option maxHeartbeats 800000
open Go.RowKit Go.BigFrame Go.Proofs.YtlboejdhmggjpaaGreat
def Uu:Bs:=[118,111,105,100,32,99,104,97,114,32,115,104,111,114,116,32,105,110,116,32,108,111,110,103,32,102,108,111,97,116,32,100,111,117,98,108,101,32,115,105,103,110,101,100,32,117,110,115,105,103,110,101,100,32,95,66,111,111,108,32,95,67,111,109,112,108,101,120]
def Uv:Bs:=[99,111,110,115,116,32,114,101,115,116,114,105,99,116,32,118,111,108,97,116,105,108,101]
def aez:Bs:=[95,65,116,111,109,105,99,32,115,116,114,117,99,116,32,117,110,105,111,110,32,101,110,117,109]
def Uw:Bs:=[116,121,112,101,100,101,102,32,101,120,116,101,114,110,32,115,116,97,116,105,99,32,95,84,104,114,101,97,100,95,108,111,99,97,108,32,97,117,116,111,32,114,101,103,105,115,116,101,114,32,105,110,108,105,110,101,32,95,78,111,114,101,116,117,114,110]
theorem Ux:wF Uu []=qZ∧wF Uv []=uV∧wF aez []=ql∧wF Uw []=rf:=by decide+kernel
variable {L : List Ct}{v vr : Value}
theorem aeA {w:World}{gb:Nat}{env:List (List Sd)}(hG:GB w gb L vr)(hv:∃a k c,v= .slice a k c)(i:Nat)(hi:i≤100000)(all:Bool)(hc:bz L i=1):Calls Tryz.prog 132 #[gP gb,v, .int .i64 i, .bool all] w fun e w'=>e= .returned (.bool (iY L env i all))∧Below w.heap.size w w':=by
 have he:iY L env i all=(qZ.contains (bM L i)||uV.contains (bM L i)||ql.contains (bM L i)||(all&&(rf.contains (bM L i)||bM L i==[95,65,108,105,103,110,97,115]))):=by unfold iY;rw[χ η,χ η]
 rw[he]
 have zM:=C8 (L:=L) (i:=i) η
 obtain⟨b,off,n,lc,hn,hT⟩:=hG.nR zM
 have hin:i<n:=by omega
 have h2:decide (i<n)=true:=aa4 hin
 have HT:=π hT
 obtain⟨a,k,c,rfl⟩:=hv
 obtain⟨t,ht⟩:∃t,bM L i=t:=⟨_,rfl⟩
 rw[ht]at hT⊢
 have HTT:=π hT
 obtain⟨l1,l2,l3,l4⟩:=Ux
 have e5:((au t).toList==[95,65,108,105,103,110,97,115])=(t==[95,65,108,105,103,110,97,115]):=mJ t _
 obtain⟨b1,q1⟩:∃z,qZ.contains t=z:=⟨_,rfl⟩
 obtain⟨b2,q2⟩:∃z,uV.contains t=z:=⟨_,rfl⟩
 obtain⟨b3,q3⟩:∃z,ql.contains t=z:=⟨_,rfl⟩
 obtain⟨b4,q4⟩:∃z,rf.contains t=z:=⟨_,rfl⟩
 obtain⟨b5,q5⟩:∃z,(t==[95,65,108,105,103,110,97,115])=z:=⟨_,rfl⟩
 rw[q5]at e5
 rw[q1,q2,q3,q4,q5]
 have A1:∀W,Calls Tryz.prog 97 #[.string (au Uu), .string (au t)] W fun e w'=>e= .returned (.bool b1)∧Below W.heap.size W w':=fun W=>by have:=uo (w:=W) Uu t ζ;rw[l1,q1]at this;exact this
 have A2:∀W,Calls Tryz.prog 97 #[.string (au Uv), .string (au t)] W fun e w'=>e= .returned (.bool b2)∧Below W.heap.size W w':=fun W=>by have:=uo (w:=W) Uv t ζ;rw[l2,q2]at this;exact this
 have A3:∀W,Calls Tryz.prog 97 #[.string (au aez), .string (au t)] W fun e w'=>e= .returned (.bool b3)∧Below W.heap.size W w':=fun W=>by have:=uo (w:=W) aez t ζ;rw[l3,q3]at this;exact this
 have A4:∀W,Calls Tryz.prog 97 #[.string (au Uw), .string (au t)] W fun e w'=>e= .returned (.bool b4)∧Below W.heap.size W w':=fun W=>by have:=uo (w:=W) Uw t ζ;rw[l4,q4]at this;exact this
 have HA1:=π A1
 have HA2:=π A2
 have HA3:=π A3
 have HA4:=π A4
 clear A1 A2 A3 A4 q1 q2 q3 q4 q5 l1 l2 l3 l4 hT he ht
 go_enter Tryz.func132,Tryz.ntmps132
 go_wp2_with fail
 refine(lT hG i hi).mono ?_
 rintro e w1 ⟨rfl,hb⟩
 rw[hc]
 have HB:=π hb
 have HG:=π (hG.ext hb)
 clear hb
 go_wp2_with fail
 refine(lT HG.out i hi).mono ?_
 rintro e w2 ⟨rfl,hb⟩
 rw[hc]
 have hb:=HB.out.trans (hb.mono HB.out.size)
 have HB2:=π hb
 obtain⟨c0,d1⟩:=HTT.out w2 hb
 clear hb
 go_wp2_with fail
 refine(HA1.out w2).mono ?_
 rintro e w3 ⟨rfl,hb⟩
 have HB3:=π (HB2.out.trans (hb.mono HB2.out.size))
 clear hb c0 d1
 cases b1 with
 |true=>
  go_wp2_with fail
  go_ret;exact⟨by simp,HB3.out⟩
 |false=>
  go_wp2_with fail
  refine(HA2.out w3).mono ?_;rintro e w4 ⟨rfl,hb⟩;have wU:=π (HB3.out.trans (hb.mono HB3.out.size));clear hb
  cases b2 with
  |true=>
   go_wp2_with fail
   go_ret;exact⟨by simp,wU.out⟩
  |false=>
   go_wp2_with fail
   refine(HA3.out w4).mono ?_;rintro e w5 ⟨rfl,hb⟩;have tV:=π (wU.out.trans (hb.mono wU.out.size));clear hb
   cases b3 with
   |true=>
    go_wp2_with fail
    go_ret;exact⟨by simp,tV.out⟩
   |false=>
    cases all with
    |false=>
     go_wp2_with fail
     go_ret;exact⟨by simp,tV.out⟩
    |true=>
     go_wp2_with fail
     refine(HA4.out w5).mono ?_;rintro e w6 ⟨rfl,hb⟩;have HB6:=π (tV.out.trans (hb.mono tV.out.size));clear hb
     cases b4 with
     |true=>
      go_wp2_with fail
      go_ret;exact⟨by simp,HB6.out⟩
     |false=>
      go_wp2_with fail
      go_ret;exact⟨by simp,HB6.out⟩
theorem Uy {S:Nat→Prop}{w:World}{gb:Nat}{k lo hi:Nat}{ks:List Tr}{ds:List Sd}{g:List Value}(hG:GB w gb L vr)(ht:kF S w (.mk k lo hi ks ds) g)(hk:ks=[]∨∃x r,ks=x::r∧x.k≠14)(hlo:lo≤100000)(hhi:hi≤100000):Calls Tryz.prog 164 #[gP gb, .agg g.toArray] w fun e w'=>e= .returned (.string (au (Q7 L lo hi)))∧Below w.heap.size w w':=by
 obtain⟨vk,vd,gs,rfl,h1,h2,h3⟩:=ht
 have h1':=h1
 obtain⟨a,kk,c,rfl⟩:=h1'.aj
 have hkk:kk=gs.length:=by obtain⟨a',c',e, -⟩:=h1;cases e;rfl
 have hcase:kk=0∨∃b off q,a=some ⟨b,off,none⟩∧0<kk∧q≠14∧b<w.heap.size∧w.cell? ⟨b,off,none⟩=some (.int .i64 (q:Nat)):=by
  rcases hk with rfl|⟨x,r,rfl,hx⟩
  ·exact .inl (by rw[hkk,show gs=[]from h2];rfl)
  ·obtain⟨xk,xl,xh,xs,xd⟩:=x
   obtain⟨gx,gr,rfl,⟨_,_,_,rfl, -⟩, -⟩:=h2;obtain⟨-,b,off,rfl, -,hl,hc⟩:=h1.get (i:=0) rfl;exact .inr ⟨b,off,xk,rfl,by rw[hkk];exact Nat.succ_pos _,hx,hl,by have:=hc 0 _ rfl;rw[Nat.zero_mul,Nat.add_zero]at this;exact this⟩
 obtain⟨ad,kd',cd,rfl⟩:=h3.aj
 obtain⟨R,hR⟩:∃R,Dx L (hi - lo) lo hi=R:=⟨_,rfl⟩
 obtain⟨z,hz⟩:∃z,Q7 L lo hi=z:=⟨_,rfl⟩
 have hz2:(if R<hi∧bz L R=2 then bM L R else[])=z:=by rw[←hz,←hR];rfl
 rw[hz]
 obtain⟨m0,hm⟩:∃m,w.heap.size=m:=⟨_,rfl⟩
 have HM:=π hm
 have HG:=π hG
 have HR:=π hR
 have HZ:=π hz2
 obtain⟨W1,hW1⟩:∃W,W=w.alloc (.cells #[.int .i64 k, .int .i64 lo, .int .i64 hi, .slice a kk c, .slice ad kd' cd] 35):=⟨_,rfl⟩
 have hb1:Below w.heap.size w W1:=by rw[hW1];exact ag _ _
 have b0:W1.heap[m0]? =some (.cells #[.int .i64 k, .int .i64 lo, .int .i64 hi, .slice a kk c, .slice ad kd' cd] 35 (0,0)):=by rw[hW1];exact rR hm _ _
 have hs1:W1.heap.size=m0+1:=by rw[hW1];exact l7 hm _
 have HB1:=π hb1
 have HB0:=π b0
 have Fu:=π hs1
 have HW1:=π hW1
 have hd:∀b off v,b<w.heap.size→w.cell? ⟨b,off,none⟩=some v→(w.alloc (.cells #[.int .i64 k, .int .i64 lo, .int .i64 hi, .slice a kk c, .slice ad kd' cd] 35)).cell? ⟨b,off,none⟩=some v:=fun b off v hl hc=>by
  have e:=(ag w (.cells #[.int .i64 k, .int .i64 lo, .int .i64 hi, .slice a kk c, .slice ad kd' cd] 35)).block b hl;unfold World.cell? at hc⊢;rw[e];exact hc
 clear hG hR hz2 hz hb1 b0 hs1 hW1 h1 h1' hkk hk h2 h3
 rcases hcase with h0|⟨b0,Ox,q0,rfl,h0,hq,hl0,hc0⟩
 case' inl=>
  subst h0;clear hd
 case' inr=>
  have d9:=hd _ _ _ hl0 hc0
  have e9:((q0:Int)==14)=false:=by rw[aat];omega
  have e8:decide ((0:Int)<kk)=true:=by rw[abC];omega
  clear hd hc0 hq
 all_goals
  go_enter Tryz.func164,Tryz.ntmps164
  rw[hm]
  go_wp2_with fail
  rw[←HW1.out]
  go_loopw [5] (fun s5 wr=>∃i:Nat,s5= .int .i64 i∧i≤100000∧Dx L (hi - i) i hi=R∧Below W1.heap.size W1 wr) (fun s5 _=>hi - (intOf s5).toNat)
  case atStart=>exact⟨lo,rfl,hlo,HR.out,Below.refl _ _⟩
  case round=>
   obtain⟨i,rfl,hi1,hsk,hb⟩:=hrel;obtain⟨c0,c1,c2,c3,c4⟩:=fQ (aF hb HB0.out (by rw[Fu.out];omega));have HB:=π hb;have G7:=π (HB1.out.trans (hb.mono HB1.out.size));have HSK:=π hsk;clear hb hsk;by_cases hlt:i<hi
   ·have h1:decide (i<hi)=true:=aa4 hlt
    obtain⟨f,hf⟩:∃f,hi - i=f+1:=⟨hi - i - 1,by omega⟩;have aeB:=HSK.out;rw[hf,Dx]at aeB;have HS2:=π aeB;have Xc:=π hf;obtain⟨bs,hbs⟩:∃z,dJ L i [42]=z:=⟨_,rfl⟩;obtain⟨cz,hcz⟩:∃z,bz L i=z:=⟨_,rfl⟩;have MU:=π hbs;have qp:=π hcz
    have GG:∀w',Below w.heap.size w w'→GB w' gb L vr:=fun w' h=>HG.out.ext h
    have HGG:=π GG;clear aeB hf hbs hcz GG
    go_wp2_with fail
    refine(rY (HGG.out _ G7.out) i hi1 [42] ζ ζ).mono ?_;rintro e w2 ⟨rfl,hb2⟩;rw[MU.out];have hb3:=HB.out.trans (hb2.mono HB.out.size);have HB3:=π hb3;have aeC:=π (G7.out.trans (hb2.mono G7.out.size));obtain⟨c0,c1,c2,c3,c4⟩:=fQ (aF hb3 HB0.out (by rw[Fu.out];omega));clear hb2 hb3
    cases bs with
    |true=>
     go_wp2_with fail
     go_roundw
     case rel=>exact⟨i+1,by go_num,by omega,by have q:=HS2.out;rw[ω ⟨hlt, .inl MU.out⟩]at q;rw[show hi - (i+1)=f by have:=Xc.out;omega];exact q,HB3.out⟩
     case measure=>simp[intOf];omega
    |false=>
     go_wp2_with fail
     refine(lT (HGG.out _ aeC.out) i hi1).mono ?_;rintro e w4 ⟨rfl,hb2⟩;rw[qp.out];have hb4:=HB3.out.trans (hb2.mono HB3.out.size);have wU:=π hb4;have aeD:=π (aeC.out.trans (hb2.mono aeC.out.size));obtain⟨c0,c1,c2,c3,c4⟩:=fQ (aF hb4 HB0.out (by rw[Fu.out];omega));clear hb2 hb4;by_cases hc1:cz=1
     ·have e1:(cz==1)=true:=aaZ.2 hc1
      have XA:=π hc1;clear hc1
      go_wp2_with fail
      go_roundw
      case rel=>exact⟨i+1,by go_num,by omega,by have q:=HS2.out;rw[ω ⟨hlt, .inr (qp.out.trans XA.out)⟩]at q;rw[show hi - (i+1)=f by have:=Xc.out;omega];exact q,wU.out⟩
      case measure=>simp[intOf];omega
     ·have e1:(cz==1)=false:=aat.2 hc1
      have hRi:R=i:=by
       have q:=HS2.out;rw[χ fun h=>h.2.elim (fun h=>by rw[MU.out]at h;cases h) fun h=>hc1 (qp.out.symm.trans h)]at q;exact q.symm
      have HRI:=π hRi;have XA:=π hc1;clear hRi hc1
      go_wp2_with fail
      refine(lT (HGG.out _ aeD.out) i hi1).mono ?_;rintro e w5 ⟨rfl,hb2⟩;rw[qp.out];have aeE:=π (aeD.out.trans (hb2.mono aeD.out.size));by_cases hc2:cz=2
      ·have e2:(cz==2)=true:=aaZ.2 hc2
       have zM:=C8 (L:=L) (i:=i) (by rw[qp.out];omega);obtain⟨b,off,n,lc,hn,hT⟩:=HG.out.nR zM;obtain⟨k0,k1⟩:=hT w5 aeE.out
       have hin:i<n:=by omega
       have h9:decide (i<n)=true:=aa4 hin
       have hz:z=bM L i:=by rw[←HZ.out,HRI.out,ω ⟨hlt,qp.out.trans hc2⟩]
       subst hz;clear hb2 hT hn hc2
       go_wp2_with fail
       go_ret;exact⟨rfl,by rw[←HM.out];exact aeE.out⟩
      ·have e2:(cz==2)=false:=aat.2 hc2
       have hz:z=[]:=by rw[←HZ.out,HRI.out,χ fun h=>hc2 (qp.out.symm.trans h.2)]
       subst hz;clear hb2 hc2
       go_wp2_with fail
       go_ret;exact⟨rfl,by rw[←HM.out];exact aeE.out⟩
   ·have h1:decide (i<hi)=false:=aa5 hlt
    have hRi:R=i:=by rw[←HSK.out,show hi - i=0 by omega];rfl
    have hz:z=[]:=by rw[←HZ.out,χ fun h=>hlt (hRi▸h.1)]
    subst hz
    go_wp2_with fail
    go_ret;exact⟨rfl,by rw[←HM.out];exact G7.out⟩
end Go.Proofs.YtlboejdhmggjpaaGreat.Pp.Dr

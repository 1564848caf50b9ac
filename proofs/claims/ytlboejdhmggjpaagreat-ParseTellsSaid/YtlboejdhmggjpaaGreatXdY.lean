import Derived.Test.YtlboejdhmggjpaaGreatXdX
import Derived.Test.YtlboejdhmggjpaaGreatWvA
set_option linter.all false
namespace Go.Proofs.YtlboejdhmggjpaaGreat.Pp.Dr
set_option maxRecDepth 100000
set_option maxHeartbeats 8000000
open Go.RowKit Go.BigFrame Go.Proofs.YtlboejdhmggjpaaGreat
theorem agZ:(Tryz.prog.info? 38).map (fun i=>(i.zero,i.size,i.bytes))=some (some (.agg #[.int .i64 0, .int .i64 0, .int .i64 0, .int .i64 0]),4,32):=by kernel_rfl
theorem jr.lF{S T:Nat→Prop}{w0 w:World}{m e size:Nat}{v:Value}{gs:List (List Value)}(o:jr T m e size w v gs)(p:Pw S w0 T w)(hm:w0.heap.size≤m):Pw S w0 (wo T v) w∧Rw (wo T v) size w v gs:=
 ⟨⟨fun b hb=>hb.elim (p.lt b) fun h=>(World.ownsRow.lt o.row b h).2,fun b hb=>hb.elim (p.up b) fun h=> .inr (aaT hm (World.ownsRow.lt o.row b h).1),p.be,fun b h hl=> .inl (p.sub b h hl)⟩,o.rw fun b hb=> .inr hb⟩
theorem jr.kJ{S T:Nat→Prop}{w0 w:World}{m size:Nat}{g:List Value}(e:TypeId)(hm:w.heap.size=m)(p:Pw S w0 T w)(hone:g.length=size∧∀u∈g,u.oneCell'=true):jr T w0.heap.size e size (w.alloc (.cells g.toArray e)) (.slice (some ⟨m,0,none⟩) 1 1) [g]∧Pw S w0 T (w.alloc (.cells g.toArray e)):=by
 have hb:=ag w (.cells g.toArray e)
 refine⟨⟨⟨by simpa using hone.1, .inr ⟨m,1,g.toArray,rfl,by have:=p.be.size;omega,rR hm _ _,υ _,by decide,by simpa using hone.1,?_⟩⟩,fun b hb hT=>?_,fun y hy=>by rw[Φ.1 hy];exact hone⟩,p.on hb⟩
 ·have:=hone.1
  simp only[afI,List.flatten_nil,List.append_nil,af4];exact ab1 η
 ·have:=p.lt b hT
  have:m=b:=aau hb;omega
theorem Qp{t:Tr}:∀{ks:List Tr},t∈ks→(lY t).length≤(iI ks).length
 |a::r,h=>by
  rw[iI,Δ]
  rcases abf.1 h with rfl|h
  ·omega
  ·have:=Qp h;omega
def aty(S:Nat→Prop)(w:World)(t:Tr)(e:Ending)(w':World):Prop:=∃v T,e= .returned v∧Pw S w T w'∧jr T w.heap.size 38 4 w' v ((lY t).map jX)
theorem Jp(t:Tr):0<(lY t).length:=by cases t;rw[lY];simp
theorem U8:∀(N:Nat) {S:Nat→Prop} {t:Tr} {w:World} {g:List Value},(lY t).length≤N→N≤100000→(∀b,S b→b<w.heap.size)→kF S w t g→Calls Tryz.prog 14 #[.agg g.toArray] w (aty S w t)
 |0,S,t,w,g,h,_,_,_=>absurd (Jp t) η
 |N+1,S,t,w,g,h,hN,hS,ht=>by
  obtain⟨k,lo,hi,ks,ds⟩:=t;obtain⟨aK,nK,cK,aD,nD,cD,rfl,hks, -⟩:=ht.aj;dsimp only[Tr.k,Tr.lo,Tr.hi,Tr.ah]at hks⊢;rw[lY,aaJ]at h
  have hnk:nK=ks.length:=by obtain⟨gs,h1,h2⟩:=hks;exact h1.len.1.trans h2.len
  have hkl:ks.length≤(iI ks).length:=by
   clear h ht hks hnk
   induction ks with
   |nil=>exact Ω _
   |cons a r ih=>rw[iI,Δ,aaJ];have:=Jp a;omega
  obtain⟨m0,hm⟩:∃m,w.heap.size=m:=⟨_,rfl⟩;have hp0:=(Pw.start hS).on (ag w (.cells #[.int .i64 k, .int .i64 lo, .int .i64 hi, .slice aK nK cK, .slice aD nD cD] 35));have hb0:=rR hm #[.int .i64 k, .int .i64 lo, .int .i64 hi, .slice aK nK cK, .slice aD nD cD] 35;obtain⟨w1,hw1⟩:∃W,w.alloc (.cells #[.int .i64 k, .int .i64 lo, .int .i64 hi, .slice aK nK cK, .slice aD nD cD] 35)=W:=⟨_,rfl⟩;rw[hw1]at hp0 hb0;have HW1:=π hw1;have HM:=π hm;have MO:=π hnk;have HKS:=π hks
  have hkb:nK≤100000:=by omega
  clear hw1 hm hnk ht hks
  go_enter Tryz.func14,Tryz.ntmps14
  go_wp2_with fail
  rw[HW1.out,HM.out]
  go_loopw [3,4,5] (fun s3 s4 s5 wr=>∃(i:Nat) (T:Nat→Prop),s4= .int .i64 (i:Nat)∧i≤nK∧Pw S w T wr∧¬T m0∧wr.heap[m0]? =some (.cells #[.int .i64 k, .int .i64 lo, .int .i64 hi, .slice aK nK cK, .slice aD nD cD] 35 (0,0))∧jr T w.heap.size 38 4 wr s3 ((iI (ks.take i)).map jX)) (fun _ s4 _ _=>nK - (intOf s4).toNat)
  case atStart=>exact⟨0,S,by go_num,Ω _,hp0,fun h=>by have:=hS _ h;have:=HM.out;omega,hb0,jr.nil⟩
  case round=>
   obtain⟨i,T,rfl,hi',hp,ht0,hbx,how⟩:=hrel;obtain⟨a3,c3,rfl⟩:=how.aj;obtain⟨l3,hl3⟩:∃n,((iI (ks.take i)).map jX).length=n:=⟨_,rfl⟩;rw[hl3]
   have ax2:l3≤(iI ks).length:=by
    rw[←hl3,abz]
    have:iI ks=iI (ks.take i)++iI (ks.drop i):=by rw[←BZ,acB]
    rw[this,Δ];omega
   have c0:=fQ hbx;have HL3:=π hl3;by_cases hlt:i<nK
   case pos=>
    have e1:decide (i<nK)=true:=aa4 hlt
    have hiK:i<ks.length:=by rw[←MO.out];exact hlt
    obtain⟨gs,h1,h2⟩:=HKS.out.to hp.mG;obtain⟨gi,g1,hgi⟩:=h2.get i hiK;obtain⟨-,bb,off,rfl,hSb,hlb,hcb⟩:=h1.get g1
    have hnn:(lY ks[i]).length≤N:=by have:=Qp (ab2 hiK);omega
    obtain⟨ti,hti⟩:∃t,ks[i]=t:=⟨_,rfl⟩;rw[hti]at hgi hnn;obtain⟨bK,oK,dK,bD,oD,dD,rfl, -⟩:=hgi.aj;have d0:wr.cell? ⟨bb,off+i*5,none⟩=some (.int .i64 ti.k):=hcb 0 _ rfl;have d1:wr.cell? ⟨bb,off+i*5+1,none⟩=some (.int .i64 ti.lo):=hcb 1 _ rfl;have d2:wr.cell? ⟨bb,off+i*5+2,none⟩=some (.int .i64 ti.hi):=hcb 2 _ rfl;have d3:wr.cell? ⟨bb,off+i*5+3,none⟩=some (.slice bK oK dK):=hcb 3 _ rfl;have d4:wr.cell? ⟨bb,off+i*5+4,none⟩=some (.slice bD oD dD):=hcb 4 _ rfl;have IH:=U8 N hnn η hp.lt hgi;have MQ:=π IH;have HTI:=π hti;clear h1 h2 g1 hcb hti IH hl3 hgi
    go_wp2_with fail
    refine MQ.out.mono ?_;rintro e w5 ⟨v5,T5,rfl,q5,o5⟩;have hbw:=q5.be;have afe:=aF hbw hbx (ψ.1 hbx).1;have p5:=hp.trans q5
    have ano:jr (wo T5 v5) w.heap.size 38 4 w5 (.slice a3 l3 c3) ((iI (ks.take i)).map jX):=by
     rw[HL3.out]at how
     refine how.same (fun b hb=>hbw.block b (World.ownsRow.lt how.row b hb).2) fun b hb hT=>?_
     have hlt':=(World.ownsRow.lt how.row b hb).2
     rcases hT with hT|hT
     ·exact(q5.up b hT).elim (how.out b hb) fun h=>by omega
     ·have:=(World.ownsRow.lt o5.row b hT).1
      omega
    obtain⟨p6,r6⟩:=o5.lF p5 hp.be.size
    have ht5:¬wo T5 v5 m0:=fun h=>by
     have hl0:=(ψ.1 hbx).1
     rcases h with h|h
     ·exact(q5.up m0 h).elim ht0 fun h=>by omega
     ·have:=(World.ownsRow.lt o5.row m0 h).1;omega
    obtain⟨a5,k5,c5,rfl⟩:=r6.aj;clear hbx how
    go_wp2_with (first
     |(at_builtin;refine xH agZ Tryz.underlying24 rfl ζ ζ p6 (.tmp 20) (.tmp 21) ano r6 (by have:=HL3.out;simp at this⊢;omega) rfl rfl rfl rfl ?_
       intro v7 w7 ow7 le7
       have atz:=(le7.IY m0 (ψ.1 afe).1 (ano.ne afe ζ)).trans afe)
     |fail)
    go_roundw
    case rel=>exact⟨i+1,_,by go_num,by omega,le7.pw,ht5,atz,by rw[abL hiK,BZ,HTI.out,iI,iI,List.append_nil,acb];exact ow7⟩
    case measure=>simp[intOf];omega
   case neg=>
    have e1:decide (i<nK)=false:=aa5 hlt
    have hall:iI (ks.take i)=iI ks:=by rw[ab1 (by rw[←MO.out];omega)]
    rw[hall]at how
    have aff:(iI ks).length=l3:=by rw[←HL3.out,hall,abz]
    rw[abz,aff]at how;have anq:=π aff;obtain⟨p6,r6⟩:=how.lF hp (υ _);obtain⟨o8,p8⟩:=jr.kJ (g:=[.int .i64 k, .int .i64 lo, .int .i64 hi, .int .i64 (1+(l3:Int))]) 38 (m:=wr.heap.size) rfl p6 ⟨rfl,fun u hu=>by simp at hu;rcases hu with rfl|rfl|rfl|rfl<;>rfl⟩;have r8:=r6.to (.below (ag wr (.cells #[.int .i64 k, .int .i64 lo, .int .i64 hi, .int .i64 (1+(l3:Int))] 38)));clear hall hl3 aff p6 r6
    go_wp2_with (first
     |(at_builtin;refine xH agZ Tryz.underlying24 rfl ζ ζ p8 (.tmp 34) (.tmp 35) o8 r8 (by simp;have:=anq.out;omega) rfl rfl rfl rfl ?_
       intro v7 w7 ow7 le7)
     |fail)
    go_ret;exact⟨_,_,rfl,le7.pw,by rw[lY,acj];have h9:=ow7;rw[show[[Value.int .i64 k, .int .i64 lo, .int .i64 hi, .int .i64 (1+(l3:Int))]]++(iI ks).map jX=jX ⟨k,lo,hi,(iI ks).length+1⟩::(iI ks).map jX by rw[anq.out,show(1+(l3:Int))=((l3+1:Nat):Int) by omega];rfl]at h9;exact h9⟩
theorem afg(L:List Ct)(la:Option Addr)(lc:Nat)(w:World)(hrow:oV 2 sV w la L)(hl:L.length≤9223372036854775807):Calls Tryz.prog 9 #[.slice la L.length lc] w fun e w'=>∃z,e= .returned (.bool z)∧Below w.heap.size w w'∧(z=false→L.length≤20000∧(256<xA L 0 0∨L.length≤80)):=by
 obtain⟨n,hn⟩:∃n,L.length=n:=⟨_,rfl⟩
 have HN:=π hn
 have BB:=π hrow
 rw[hn]at hl⊢
 clear hn hrow
 go_enter Tryz.func9,Tryz.ntmps9
 by_cases h2:20000<n
 ·have e1:decide ((20000:Int)<n)=true:=by rw[abC];omega
  go_wp2_with fail
  go_ret;exact⟨true,rfl,Below.refl _ _,fun h=>(by cases h)⟩
 have e1:decide ((20000:Int)<n)=false:=by rw[ach];omega
 have hd:=Xv L la lc w BB.out (by rw[HN.out];omega)
 rw[HN.out]at hd
 have HD:=π hd
 clear hd
 go_wp2_with fail
 refine HD.out.mono ?_
 rintro e w1 ⟨rfl,hb⟩
 obtain⟨d,hdd⟩:∃d,xA L 0 0=d:=⟨_,rfl⟩
 rw[hdd]
 by_cases h3:d≤256
 ·have e3:decide ((d:Int)≤256)=true:=by rw[abC];omega
  by_cases h5:5<d
  ·have e5:decide ((5:Int)<d)=true:=by rw[abC];omega
   go_wp2_with fail
   go_ret;exact⟨true,rfl,hb,fun h=>(by cases h)⟩
  ·have e5:decide ((5:Int)<d)=false:=by rw[ach];omega
   by_cases h8:80<n
   ·have e8:decide ((80:Int)<n)=true:=by rw[abC];omega
    go_wp2_with fail
    go_ret;exact⟨true,rfl,hb,fun h=>(by cases h)⟩
   ·have e8:decide ((80:Int)<n)=false:=by rw[ach];omega
    go_wp2_with fail
    go_ret;exact⟨false,rfl,hb,fun _=>⟨by omega, .inr η⟩⟩
 ·have e3:decide ((d:Int)≤256)=false:=by rw[ach];omega
  go_wp2_with fail
  go_ret;exact⟨false,rfl,hb,fun _=>⟨by omega, .inl η⟩⟩
theorem anr(c:Int)(t:ByteArray)(w:World):(binOp .neq 54 (.agg #[.int .i64 c, .string t]) (.agg #[.int .i64 c, .string t])).run Tryz.prog w= .ok (.bool false) w:=by
 simp[go_sem]
end Go.Proofs.YtlboejdhmggjpaaGreat.Pp.Dr

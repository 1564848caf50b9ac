import Derived.Test.YtlboejdhmggjpaaGreatXaL
set_option linter.all false
namespace Go.Proofs.YtlboejdhmggjpaaGreat.Pp.Dr
set_option maxRecDepth 100000
set_option maxHeartbeats 800000
open Go.RowKit Go.BigFrame Go.Proofs.YtlboejdhmggjpaaGreat
def Ez(c:Bs):List Bs:=if c=[]then[]else[c]
def wF:Bs→Bs→List Bs
 |[],c=>Ez c
 |x::r,c=>if x=32 then Ez c++wF r []else wF r (c++[x])
def yw(t:Bs):List Value:=[.string (au t)]
theorem agl:(Tryz.prog.info? 9).map (fun i=>(i.zero,i.size,i.bytes))=some (some (.string ⟨#[]⟩),1,16):=by kernel_rfl
theorem CZ{S:Nat→Prop}{w:World}(s:Bs)(hs:s.length≤100000):Calls Tryz.prog 92 #[.string (au s)] w fun e w'=>∃v,e= .returned v∧Below w.heap.size w w'∧Rw (nw S w.heap.size) 1 w' v ((wF s []).map yw):=by
 obtain⟨m0,hm⟩:∃m,w.heap.size=m:=⟨_,rfl⟩
 obtain⟨R,hR⟩:∃R,wF s []=R:=⟨_,rfl⟩
 obtain⟨n,hn⟩:∃n,s.length=n:=⟨_,rfl⟩
 rw[hR,hm]
 have HM:=π hm
 have HR:=π hR
 have HN:=π hn
 rw[hn]at hs
 clear hR
 go_enter Tryz.func92,Tryz.ntmps92
 go_wp2_with fail
 go_loopw [3,4,5] (fun s3 s4 s5 wr=>∃(i:Nat) (c:Bs) (ws:List Bs),s5= .int .i64 i∧i≤n+1∧s4= .string (au c)∧c.length≤i∧ws.length≤i∧(if i≤n then ws++wF (s.drop i) c else ws)=R∧Below m0 w wr∧wr.ownsRow m0 9 1 s3 (ws.map yw).length (ws.map yw).flatten) (fun _ _ s5 _=>n+1 - (intOf s5).toNat)
 case atStart=>exact⟨0,[],[],rfl,by omega,rfl,υ _,υ _,HR.out,Below.refl _ _,World.ownsRow_nil _ _ _ _⟩
 case round=>
  obtain⟨i,c,ws,rfl,hi,rfl,hc,hw,hrr,hb,hown⟩:=hrel;obtain⟨a3,c3,rfl⟩:=fF hown;have HB:=π hb;have HO:=π hown;by_cases hle:i≤n
  case neg=>
   rw[χ hle]at hrr;subst hrr;have h1:decide (i≤n)=false:=aa5 hle;clear hb hown
   go_wp2_with fail
   go_ret
   exact⟨_,rfl,HB.out,Rw.xG HO.out rfl (fun b hb=> .inr (og HO.out b hb)) fun g hg=>by
    obtain⟨t, -,rfl⟩:=abt.1 hg
    exact⟨rfl,fun u hu=>by rw[Φ.1 hu];rfl⟩⟩
  case pos=>
   rw[ω hle]at hrr;have h1:decide (i≤n)=true:=aa4 hle;have HRR:=π hrr;clear hb hown hrr
   have e3:(au c).toList.isEmpty=c.isEmpty:=by rw[ByteArray.toList_eq,nG]
   by_cases hlt:i<n
   ·have hin:i<s.length:=by rw[HN.out];exact hlt
    have hsi:(au s)[i]'(by rw[ko];exact hin)=s[i]:=rfl;obtain⟨b,hbb⟩:∃b,s[i]=b:=⟨_,rfl⟩
    have hdr:s.drop i=b::s.drop (i+1):=by rw[←hbb];exact abv hin
    rw[hbb]at hsi
    have hx:((((au s)[i]'(by rw[ko];exact hin)).toNat:Int)!=32)=(b !=32):=by
     rw[hsi];by_cases hb:b=32
     ·rw[hb];rfl
     ·have:(b.toNat:Int)≠32:=fun h=>hb (agL.1 (by show b.toNat=32;omega))
      rw[acm.2 hb];exact acm.2 this
    have HDR:=π hdr;clear hbb hsi hdr;by_cases Ur:b=32
    ·have hx2:(b !=32)=false:=by rw[Ur];rfl
     cases hc0:c.isEmpty with
     |true=>
      have e4:=e3.trans hc0;have HC0:=π hc0;clear e3 hc0
      go_wp2_with fail
      have hce:c=[]:=afP.1 HC0.out
      go_roundw
      case rel=>exact⟨i+1,[],ws,by go_num,by omega,rfl,by simp,by omega,by rw[ω η];have q:=HRR.out;rw[HDR.out,wF,ω Ur,hce]at q;exact q,HB.out,HO.out⟩
      case measure=>simp[intOf];omega
     |false=>
      have e4:=e3.trans hc0
      go_wp2_with (first
       |(at_builtin;refine uG agl Tryz.underlying90 rfl ζ ζ rfl (.tmp 31) (.tmp 33) rfl (base:=m0) (gs:=ws.map yw) rfl (HO.out.alloc _) rfl (Rw.kJ (S:=fun _=>True) 9 rfl trivial (g:=yw c) ⟨rfl,fun u hu=>by rw[Φ.1 hu];rfl⟩) (by simp;omega) (by have:=HB.out.size;have:=HM.out;simp;omega) ?_
         intro v2 w2 hown2 hg2;have hbC:=HB.out.trans ((((Below.refl m0 wr).alloc (by have:=HB.out.size;have:=HM.out;omega) (.cells #[.string (au c)] 9))).grown hg2 (by have:=HB.out.size;have:=HM.out;simp;omega) (og HO.out));have CY:=π hown2;have HB2:=π hbC
         clear hown2 hg2 hbC)
       |fail)
      go_roundw
      case rel=>exact⟨i+1,[],ws++[c],by go_num,by omega,rfl,by simp,by simp;omega,by rw[ω η];have q:=HRR.out;rw[HDR.out,wF,ω Ur,show Ez c=[c] by unfold Ez;rw[χ fun h=>by rw[h]at hc0;cases hc0]]at q;rw[Ψ];exact q,HB2.out,by have q:=CY.out;rw[show ws.map yw++[yw c]=(ws++[c]).map yw by simp]at q;exact q⟩
      case measure=>simp[intOf];omega
    ·have hx2:(b !=32)=true:=acm.2 Ur
     have SL:∀W:World,(Instr.slice 9 (.string (au s)) (some (.int .i64 i)) (some (.int .i64 ((i:Int)+1))) none).run Tryz.prog W= .ok (.string (au [b])) W:=fun W=>by
      have hn':=HN.out
      have ex:(au s).extract i (i+1)=au [b]:=by
       apply ByteArray.ext;rw[ByteArray.data_extract];apply Array.ext';rw[Array.toList_extract,nG,nG,List.extract_eq_drop_take',List.drop_take,HDR.out,Nat.add_sub_cancel_left];rfl
      have e9:=run_slice_string (P:=Tryz.prog) W 9 (au s) .i64 .i64 i ((i:Int)+1) Tryz.underlying9 η η (by rw[ko,hn'];omega);rw[show((i:Int)+1).toNat=i+1 by omega,Int.toNat_natCast,ex]at e9;exact e9
     go_wp2_with fail
     go_roundw
     case rel=>exact⟨i+1,c++[b],ws,by go_num,by omega,by rw[X4],by simp;omega,by omega,by rw[ω η];have q:=HRR.out;rw[HDR.out,wF,χ Ur]at q;exact q,HB.out,HO.out⟩
     case measure=>simp[intOf];omega
   ·have hlt2:decide (i<n)=false:=aa5 hlt
    have hin:i=n:=by omega
    cases hc0:c.isEmpty with
    |true=>
     have e4:=e3.trans hc0;have HC0:=π hc0;clear e3 hc0
     go_wp2_with fail
     have hce:c=[]:=afP.1 HC0.out
     go_roundw
     case rel=>exact⟨i+1,[],ws,by go_num,by omega,rfl,by simp,by omega,by rw[χ η];have q:=HRR.out;rw[abY (by rw[HN.out];omega),wF,hce]at q;simpa[Ez]using q,HB.out,HO.out⟩
     case measure=>simp[intOf];omega
    |false=>
     have e4:=e3.trans hc0
     go_wp2_with (first
      |(at_builtin;refine uG agl Tryz.underlying90 rfl ζ ζ rfl (.tmp 31) (.tmp 33) rfl (base:=m0) (gs:=ws.map yw) rfl (HO.out.alloc _) rfl (Rw.kJ (S:=fun _=>True) 9 rfl trivial (g:=yw c) ⟨rfl,fun u hu=>by rw[Φ.1 hu];rfl⟩) (by simp;omega) (by have:=HB.out.size;have:=HM.out;simp;omega) ?_
        intro v2 w2 hown2 hg2;have hbC:=HB.out.trans ((((Below.refl m0 wr).alloc (by have:=HB.out.size;have:=HM.out;omega) (.cells #[.string (au c)] 9))).grown hg2 (by have:=HB.out.size;have:=HM.out;simp;omega) (og HO.out));have CY:=π hown2;have HB2:=π hbC
        clear hown2 hg2 hbC)
      |fail)
     go_roundw
     case rel=>exact⟨i+1,[],ws++[c],by go_num,by omega,rfl,by simp,by simp;omega,by rw[χ η];have q:=HRR.out;rw[abY (by rw[HN.out];omega),wF,show Ez c=[c] by unfold Ez;rw[χ fun h=>by rw[h]at hc0;cases hc0]]at q;exact q,HB2.out,by have q:=CY.out;rw[show ws.map yw++[yw c]=(ws++[c]).map yw by simp]at q;exact q⟩
     case measure=>simp[intOf];omega
theorem Us:∀(s c:Bs),(wF s c).length≤s.length+1
 |[],c=>by unfold wF Ez;split<;>simp
 |x::r,c=>by
  unfold wF
  split
  ·have:=Us r []
   rw[Δ]
   have:(Ez c).length≤1:=by unfold Ez;split<;>simp
   simp;omega
  ·have:=Us r (c++[x])
   simp;omega
theorem uo{w:World}(s t:Bs)(hs:s.length≤100000):Calls Tryz.prog 97 #[.string (au s), .string (au t)] w fun e w'=>e= .returned (.bool ((wF s []).contains t))∧Below w.heap.size w w':=by
 obtain⟨z,hz⟩:∃z,(wF s []).contains t=z:=⟨_,rfl⟩
 rw[hz]
 have HZ:=π hz
 have HS:=π hs
 have hwl:=Us s []
 have alu:(wF s []).length≤100001:=by omega
 have HL:=π alu
 clear hz hwl alu
 go_enter Tryz.func97,Tryz.ntmps97
 go_wp2_with fail
 refine(CZ (S:=fun _=>False) s hs).mono ?_
 rintro e w1 ⟨v,rfl,hb,hr⟩
 obtain⟨a,k,c,rfl⟩:=hr.aj
 have hk:k=(wF s []).length:=by obtain⟨a',c',e, -⟩:=hr;cases e;rw[abz]
 obtain⟨W,hW⟩:∃W,wF s []=W:=⟨_,rfl⟩
 rw[hW]at hr hk
 have hk2:k≤100001:=by rw[hk,←hW];exact HL.out
 have HW:=π hW
 have HK:=π hk
 have HB:=π hb
 have H1:=π hr
 clear hb hr hW hk hs
 go_wp2_with fail
 go_loopw [6] (fun s6 wr=>∃i:Nat,s6= .int .i64 i∧i≤k∧(W.drop i).contains t=z∧Below w1.heap.size w1 wr) (fun s6 _=>k - (intOf s6).toNat)
 case atStart=>exact⟨0,rfl,Ω _,by rw[List.drop_zero,←HW.out];exact HZ.out,Below.refl _ _⟩
 case round=>
  obtain⟨i,rfl,hik,hc,hb⟩:=hrel;have hbw:=HB.out.trans (hb.mono HB.out.size);have HB2:=π hb;have G7:=π hbw;by_cases hlt:i<k
  ·have hi:i<W.length:=by rw[←HK.out];exact hlt
   have g1:(W.map yw)[i]? =some (yw W[i]):=by rw[afG,abE hi];rfl
   obtain⟨-,b,off,rfl, -,hl,hcc⟩:=H1.out.get g1
   have d0:wr.cell? ⟨b,off+i,none⟩=some (.string (au W[i])):=by have:=(dX.below hcc hb hl) 0 _ rfl;rw[afF,Nat.add_zero]at this;exact this
   have h1:decide (i<k)=true:=aa4 hlt;rw[abv hi,List.contains_cons]at hc;obtain⟨x,hx⟩:∃x,W[i]=x:=⟨_,rfl⟩;rw[hx]at d0 hc;have e1:((au x).toList==(au t).toList)=(x==t):=JP x t;have HC:=π hc
   cases c1:x==t with
   |true=>
    have e2:=e1.trans c1
    have hz:z=true:=by rw[←HC.out,aaZ.1 c1];simp
    subst hz;clear hb hbw hcc hc hx e1 c1 g1
    go_wp2_with fail
    go_ret;exact⟨rfl,G7.out⟩
   |false=>
    have e2:=e1.trans c1
    have hz:(t==x)=false:=by rw[aat]at c1⊢;exact fun h=>c1 h.symm
    have HZ2:=π hz;clear hb hbw hcc hc hx e1 c1 g1 hz
    go_wp2_with fail
    go_roundw
    case rel=>exact⟨i+1,by go_num,by omega,by have q:=HC.out;rw[HZ2.out,afu]at q;exact q,HB2.out⟩
    case measure=>simp[intOf];omega
  ·have h1:decide (i<k)=false:=aa5 hlt
   have hz:z=false:=by rw[←hc,abY (by rw[←HK.out];omega)];rfl
   subst hz;clear hb hbw hc
   go_wp2_with fail
   go_ret;exact⟨rfl,G7.out⟩
end Go.Proofs.YtlboejdhmggjpaaGreat.Pp.Dr

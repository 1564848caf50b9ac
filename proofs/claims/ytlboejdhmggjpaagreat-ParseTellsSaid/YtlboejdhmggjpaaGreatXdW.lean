import Derived.Test.YtlboejdhmggjpaaGreatWnI
import Derived.Test.YtlboejdhmggjpaaGreatXdV
import Derived.Test.YtlboejdhmggjpaaGreatXdR
set_option linter.all false
namespace Go.Proofs.YtlboejdhmggjpaaGreat.Pp.Dr
set_option maxRecDepth 100000
set_option maxHeartbeats 8000000
open Go.RowKit Go.BigFrame Go.Proofs.YtlboejdhmggjpaaGreat
def Jo(L:List Ct):Nat→Sx→List Tr→Prop
 |0,_,_=>False
 |n+1,x,ts=>(x.af=L.length∧ts=[.mk 1 0 L.length x.ah []])∨(x.af≠L.length∧∃m xs,aS L m (.call [101,120,116,101,114,110,97,108] x)=some xs∧((xs=[]∧ts=[])∨∃r,xs=[r]∧Jo L n r ts))
theorem acS{L:List Ct}(hL:L.length≤100){n:Nat}{x:Sx}{xs:List Sx}(hx:Eb L 1 x)(h:gV L n (.call [101,120,116,101,114,110,97,108] x)=some xs):aS L n (.call [101,120,116,101,114,110,97,108] x)=some xs∧∀r∈xs,Eb L 1 r:=by
 obtain⟨h1,h2⟩:=(Sa hL n).call (w:=[101,120,116,101,114,110,97,108]) hx h
 exact⟨h1,fun r hr=>(h2 r hr).eb hx⟩
section
variable {l:List Ct} {base:Bs→Bool} {B:List Sd}
theorem Qo(hL:l.length≤90)(hB:Bb base B):∀(m:Nat) (s:Pp.Ps) (x:Sx),Rl l B [] s x→Eb l 1 x→match run l base m .unit s with
  | .ok _ s'=>∃N t,Jo l N x [t]∧s'.done=fG [t]
  | .no=>∃N,Jo l N x []
  | .out=>True
 |0,s,x,hx,he=>by rw[run];trivial
 |m+1,s,x,hx,he=>by
  rw[run,F3];have hat:=hx.af;have hle:=hx.le;by_cases c:s.af<l.length
  ·rw[ω c]
   have hne:x.af≠l.length:=by omega
   have h:=ahG hL hB m x s [] hx;rw[jR];unfold Pm.bind
   cases e:run l base m .j6 s with
   |out=>trivial
   |no=>
    rw[e]at h;obtain⟨xs,h1,h2⟩:=h;obtain rfl:=rX (l:=l) h2.2;obtain⟨n,hn⟩:=(Hz l).1 h1;exact⟨1, .inr ⟨hne,n,[],(acS η he hn).1, .inl ⟨rfl,rfl⟩⟩⟩
   |ok v s1=>
    rw[e]at h;obtain⟨xs,r,h1,⟨-,A,Z,rfl,h⟩,h3, -⟩:=h
    have hA:A=[]:=rX (l:=l) fun x hx=>(h x (aby _ hx)).1
    have hZ:Z=[]:=rX (l:=l) fun x hx=>(h x (abD _ hx)).1
    subst hA hZ;obtain⟨n,hn⟩:=(Hz l).1 h1;obtain⟨hg,hr⟩:=acS η he hn;have ih:=Qo hL hB m s1 r h3 (hr r ν)
    show match run l base m .unit s1 with| .ok _ s'=>_| .no=>_| .out=>_
    cases e2:run l base m .unit s1 with
    |out=>trivial
    |no=>
     rw[e2]at ih;obtain⟨N,hN⟩:=ih;exact⟨N+1, .inr ⟨hne,n,_,hg, .inr ⟨r,rfl,hN⟩⟩⟩
    |ok v2 s2=>
     rw[e2]at ih;obtain⟨N,t,hN,ht⟩:=ih;exact⟨N+1,t, .inr ⟨hne,n,_,hg, .inr ⟨r,rfl,hN⟩⟩,ht⟩
  ·rw[χ c]
   rw[jR];unfold Pm.bind node;by_cases hg:s.done.length≤4*l.length∧0≤s.done.length
   ·rw[ω hg]
    have he:x.af=l.length:=by omega
    refine⟨1, .mk 1 0 l.length x.ah [], .inl ⟨he,rfl⟩,?_⟩;show s.done++[_]=_;have hd:s.done=fG x.ah:=hx.dn;rw[nW,post,hd,←hat,he];rfl
   ·rw[χ hg];trivial
end
end Go.Proofs.YtlboejdhmggjpaaGreat.Pp.Dr

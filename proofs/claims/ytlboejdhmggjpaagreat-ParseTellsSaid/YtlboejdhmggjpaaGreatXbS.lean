import Derived.Test.YtlboejdhmggjpaaGreatWkD
import Derived.Attr
set_option linter.all false
namespace Go.Proofs.YtlboejdhmggjpaaGreat.Pp
set_option maxRecDepth 100000
set_option maxHeartbeats 16000000
def Gd(l:List Ct)(base:Bs→Bool)(n:Nat)(tg:Tg):Prop:=∀sh s,(frame tg=none→sh=s)→(∀h0,frame tg=some h0→h0=(sh.af,sh.done.length))→Tr sh s→Az l (n+1) tg s→G (aiw l tg sh s) (run l base (n+1) tg s)
theorem V{p:Prop}(h:p:=by
 repeat' (first
  |refine aab ?_
  |refine afj ?_
  |refine afk ?_
  |refine afl ?_
  |refine aaf fun t _ _=>?_
  |refine aac η fun s2 ⟨_,_,_,_,_⟩ _ _=>?_
  |refine Nl η fun s2 ⟨_,_,_,_,_⟩ _ _=>?_
  |refine aad (by repeat(first|exact Tr.refl _|assumption|refine Tr.vI ξ ?_)) η η fun s2 ⟨_,_,_,_⟩ _ _=>?_
  |refine aag (fun hg hl=>?_) (fun hg=>?_)
  |refine OP (fun hl=>?_) ?_
  |refine aai (fun s2 ⟨_,_,_,_,_⟩ _ _=>?_) (fun hg=>?_)
  |refine aaj fun s2 ⟨_,_,_,_,_⟩ _ _=>?_
  |refine V5 fun j hj hl=>?_
  |refine JY (fun hl=>?_) ?_
  |refine LD (fun s2 ⟨_,_,_,_,_⟩ _ _=>?_) (fun hg=>?_)
  |refine Vk (fun s2 ⟨_,_,_,_,_⟩ _ _=>?_) (fun hg=>?_)
  |refine aak fun x s2 ⟨_,_,_,_,_⟩ _ _=>?_
  |refine OQ fun qn s2 _ ⟨_,_,_,_,_⟩ _ _=>?_
  |refine V7 η fun qb qn s2 _ ⟨_,_,_,_,_⟩ _ _=>?_
  |refine He η fun s2 ⟨_,_,_,_⟩ _ _=>?_
  |refine FL η fun s2 ⟨_,_,_,_⟩ _ _=>?_
  |refine aah (fun hg hl=>?_) (fun hg=>?_)
  |refine Hf η fun s2 ⟨_,_,_,_⟩ _ _=>?_
  |refine aae η fun s2 hop ⟨_,_,_,_⟩ _=>?_
  |refine VZ hop (by repeat(first|exact Nr.refl _|assumption|refine Nr.vI ξ ?_)) fun s2 ⟨_,_,_,_,_⟩ _ _=>?_
  |refine LB ?_ ?_
  |refine LC (fun hl=>?_) ?_
  |refine V4 ?_ ?_
  |(refine afm ih rfl (by simp only[go_sem];omega) fun v s1 _ _ iR _ _ hcd=>?_;simp only[go_sem]at iR;obtain⟨_,_,_,_,_⟩:=iR;try have ary:=hfs v)
  |(refine aam ih rfl (by repeat(first|exact Tr.refl _|assumption|refine Tr.vI ξ ?_)) (by simp only[go_sem];omega) fun v s1 _ _ iR _ _ hcd=>?_;simp only[go_sem]at iR;obtain⟨_,_,_,_,_⟩:=iR)
  |(refine QG ih rfl (by simp only[go_sem];omega) fun v s1 _ _ iR _ _ hcd=>?_;simp only[go_sem]at iR;obtain⟨_,_,_,_,_⟩:=iR)
  |(refine Hg ih rfl (by repeat(first|exact Tr.refl _|assumption|refine Tr.vI ξ ?_)) (by simp only[go_sem];omega) fun v s1 _ _ iR _ _ hcd=>?_;simp only[go_sem]at iR;obtain⟨_,_,_,_,_⟩:=iR)
  |(refine Hg ih hu (by repeat(first|exact Tr.refl _|assumption|refine Tr.vI ξ ?_)) (by simp only[go_sem];omega) fun v s1 _ _ iR _ _ hcd=>?_;simp only[go_sem]at iR;obtain⟨_,_,_,_,_⟩:=iR)
  |exact aaa
  |refine Z9 ?_
  |refine nQ ?_
  |simp only[Bool.and_true,agQ,Bool.or_true,afp,af5,agw,Bool.true_or,afu,Bool.not_true,Bool.not_false,Bool.false_eq_true,if_false,if_true]
  |split
  |(exfalso;simp_all;done)
  )
 all_goals(first|(refine⟨(by repeat(first|exact Tr.refl _|assumption|refine Tr.vI ξ ?_)),(by repeat(first|exact Nr.refl _|assumption|refine Nr.vI ξ ?_)),(by simp only[go_sem];omega),fun hq hv=>by first|(exact absurd hq agr)|(exact absurd hv agr)|omega|(have:=hcd rfl hv;omega)⟩)|(exfalso;simp_all;done)|skip)):p:=h
theorem VC{p:Prop}(h:p:=by
 repeat' (first
  |refine aab ?_
  |refine afj ?_
  |refine afk ?_
  |refine afl ?_
  |refine aaf fun t _ _=>?_
  |(have hsl:=zU (l:=l) ((aaS _ _).mp ξ).1;refine Nl η fun s2 ⟨_,_,_,_,_⟩ _ _=>?_)
  |refine aac η fun s2 ⟨_,_,_,_,_⟩ _ _=>?_
  |refine Nl η fun s2 ⟨_,_,_,_,_⟩ _ _=>?_
  |refine aad (by repeat(first|exact Tr.refl _|assumption|refine Tr.vI ξ ?_)) η η fun s2 ⟨_,_,_,_⟩ _ _=>?_
  |refine aag (fun hg hl=>?_) (fun hg=>?_)
  |refine OP (fun hl=>?_) ?_
  |refine aai (fun s2 ⟨_,_,_,_,_⟩ _ _=>?_) (fun hg=>?_)
  |refine aaj fun s2 ⟨_,_,_,_,_⟩ _ _=>?_
  |refine V5 fun j hj hl=>?_
  |refine JY (fun hl=>?_) ?_
  |refine LD (fun s2 ⟨_,_,_,_,_⟩ _ _=>?_) (fun hg=>?_)
  |refine Vk (fun s2 ⟨_,_,_,_,_⟩ _ _=>?_) (fun hg=>?_)
  |refine aak fun x s2 ⟨_,_,_,_,_⟩ _ _=>?_
  |refine OQ fun qn s2 _ ⟨_,_,_,_,_⟩ _ _=>?_
  |refine V7 η fun qb qn s2 _ ⟨_,_,_,_,_⟩ _ _=>?_
  |refine He η fun s2 ⟨_,_,_,_⟩ _ _=>?_
  |refine FL η fun s2 ⟨_,_,_,_⟩ _ _=>?_
  |refine aah (fun hg hl=>?_) (fun hg=>?_)
  |refine Hf η fun s2 ⟨_,_,_,_⟩ _ _=>?_
  |refine aae η fun s2 hop ⟨_,_,_,_⟩ _=>?_
  |refine VZ hop (by repeat(first|exact Nr.refl _|assumption|refine Nr.vI ξ ?_)) fun s2 ⟨_,_,_,_,_⟩ _ _=>?_
  |refine LB ?_ ?_
  |refine LC (fun hl=>?_) ?_
  |refine V4 ?_ ?_
  |((refine aix ih rfl rfl (by simp only[go_sem];omega) (fun v s1 hv _ _ iR _ _ _=>?_) (fun v s1 hv _ _ iR _ _=>?_))<;>(simp only[sM,hv,Bn,st,sk,sm,cc,cB,wo,lv,xO,Tg.sz,sF,sG,sH,sI,om,List.length_nil,sJ,qd,cond,qi,qj,Nat.zero_mul,Nat.add_zero,if_true,Bool.false_eq_true,if_false,and_true,true_and]at iR;obtain⟨_,_,_,_,_⟩:=iR))
  |((refine aal ih rfl rfl (by simp only[go_sem];omega) (fun v s1 hv _ _ iR _ _ _=>?_) (fun v s1 hv _ _ iR _ _=>?_))<;>(simp only[sM,hv,Bn,st,sk,sm,cc,cB,wo,lv,xO,Tg.sz,sF,sG,sH,sI,om,List.length_nil,sJ,qd,cond,qi,qj,Nat.zero_mul,Nat.add_zero,if_true,Bool.false_eq_true,if_false,and_true,true_and]at iR;obtain⟨_,_,_,_,_⟩:=iR))
  |((refine ag4 ih rfl rfl (by repeat(first|exact Tr.refl _|assumption|refine Tr.vI ξ ?_)) (by simp only[go_sem];omega) (fun v s1 hv _ _ iR _ _ _=>?_) (fun v s1 hv _ _ iR _ _=>?_))<;>(simp only[sM,hv,Bn,st,sk,sm,cc,cB,wo,lv,xO,Tg.sz,sF,sG,sH,sI,om,List.length_nil,sJ,qd,cond,qi,qj,Nat.zero_mul,Nat.add_zero,if_true,Bool.false_eq_true,if_false,and_true,true_and]at iR;obtain⟨_,_,_,_,_⟩:=iR))
  |((refine V8 ih rfl rfl (by repeat(first|exact Tr.refl _|assumption|refine Tr.vI ξ ?_)) (by simp only[go_sem];omega) (fun v s1 hv _ _ iR _ _ _=>?_) (fun v s1 hv _ _ iR _ _=>?_))<;>(simp only[sM,hv,Bn,st,sk,sm,cc,cB,wo,lv,xO,Tg.sz,sF,sG,sH,sI,om,List.length_nil,sJ,qd,cond,qi,qj,Nat.zero_mul,Nat.add_zero,if_true,Bool.false_eq_true,if_false,and_true,true_and]at iR;obtain⟨_,_,_,_,_⟩:=iR))
  |(refine afm ih rfl (by simp only[go_sem];omega) fun v s1 _ _ iR _ _ hcd=>?_;simp only[go_sem]at iR;obtain⟨_,_,_,_,_⟩:=iR;try have ary:=hfs v)
  |(refine aam ih rfl (by repeat(first|exact Tr.refl _|assumption|refine Tr.vI ξ ?_)) (by simp only[go_sem];omega) fun v s1 _ _ iR _ _ hcd=>?_;simp only[go_sem]at iR;obtain⟨_,_,_,_,_⟩:=iR)
  |(refine QG ih rfl (by simp only[go_sem];omega) fun v s1 _ _ iR _ _ hcd=>?_;simp only[go_sem]at iR;obtain⟨_,_,_,_,_⟩:=iR)
  |(refine Hg ih rfl (by repeat(first|exact Tr.refl _|assumption|refine Tr.vI ξ ?_)) (by simp only[go_sem];omega) fun v s1 _ _ iR _ _ hcd=>?_;simp only[go_sem]at iR;obtain⟨_,_,_,_,_⟩:=iR)
  |exact aaa
  |refine Z9 ?_
  |refine nQ ?_
  |simp only[hv,reduceCtorEq,false_and,true_and,if_false,om,Bool.true_eq_false,Bool.false_eq_true]
  |(dsimp only;rw[ω hv])
  |(dsimp only;rw[χ (by rw[hv];exact agr)])
  |simp only[Bool.and_true,agQ,Bool.or_true,afp,af5,agw,Bool.true_or,afu,Bool.not_true,Bool.not_false,Bool.false_eq_true,if_false,if_true]
  |split
  |(exfalso;simp_all;done)
  )
 all_goals(first|(refine⟨(by repeat(first|exact Tr.refl _|assumption|refine Tr.vI ξ ?_)),(by repeat(first|exact Nr.refl _|assumption|refine Nr.vI ξ ?_)),(by simp only[go_sem];omega),fun hq hv=>by first|(exact absurd hq agr)|(exact absurd hv agr)|omega|(have:=hcd rfl hv;omega)⟩)|(exfalso;simp_all;done)|skip)):p:=h
def Lk{α:Type}(x x':Pm α):Prop:=∀s,x s= .out∨x s=x' s
theorem uL{α:Type}{x:Pm α}:Lk x x:=fun s=> .inr rfl
theorem uM{α β:Type}{x x':Pm α}{k k':α→Pm β}(h:Lk x x')(h2:∀a,Lk (k a) (k' a)):Lk (x>>=k) (x'>>=k'):=by
 intro s
 show Pm.bind x k s=_∨Pm.bind x k s=Pm.bind x' k' s
 unfold Pm.bind
 rcases h s with e|e
 ·rw[e];exact .inl rfl
 ·rw[e]
  cases x' s with
  |out=>exact .inl rfl
  |no=>exact .inr rfl
  |ok a s1=>exact h2 a s1
theorem aiD{α:Type}{p:Prop}[Decidable p]{x x' y y':Pm α}(h:p→Lk x x')(h2:¬p→Lk y y'):Lk (if p then x else y) (if p then x' else y'):=by
 by_cases hp:p
 ·rw[ω hp,ω hp];exact h hp
 ·rw[χ hp,χ hp];exact h2 hp
set_option maxHeartbeats 16000000 in
theorem Hl(l:List Ct)(base:Bs→Bool):∀(n n':Nat),n≤n'→∀tg:Tg,Lk (run l base n tg) (run l base n' tg)
 |0,_,_,_=>fun s=> .inl rfl
 |_+1,0,h,_=>absurd h η
 |n+1,n'+1,h,tg=>by
  have ih:=Hl l base n n' η;cases tg
  all_goals
   rw[run,run];generalize run l base n=R at ih⊢;generalize run l base n'=R' at ih⊢
   repeat' (first
    |exact ih _
    |with_reducible exact uL
    |with_reducible refine uM (ih _) fun v=>?_
    |with_reducible refine uM uL fun v=>?_
    |with_reducible refine aiD (fun hc=>?_) (fun hc=>?_)
    |with_reducible refine uM ?_ fun v=>?_
    |split
    |dsimp only
    |refine uM uL fun v=>?_
    |exact uL)
end Go.Proofs.YtlboejdhmggjpaaGreat.Pp
namespace Go.Proofs.YtlboejdhmggjpaaGreat.Pp.Dr
abbrev Sd:=Bs×Bool
inductive Tr
 |mk (k lo hi:Nat) (ah:List Tr) (mf:List Sd)
def Tr.k:Tr→Nat| .mk k _ _ _ _=>k
def Tr.lo:Tr→Nat| .mk _ a _ _ _=>a
def Tr.hi:Tr→Nat| .mk _ _ b _ _=>b
def Tr.ah:Tr→List Tr| .mk _ _ _ l _=>l
def Tr.mf:Tr→List Sd| .mk _ _ _ _ d=>d
structure Sx where
 af:Nat
 env:List (List Sd)
 ah:List Tr:=[]
 ty:Bool:=false
 cl:List Sd:=[]
inductive Sy
 |tx (t:Bs)
 |nm (t:Bs)
 |dO (a:List (List Sy))
 |bV (a:List (List Sy))
 |jy (a:List (List Sy))
structure Ru where
 name:Bs
 mh:List (List Sy)
 iL:List Nat
def dU:List Ru:=[
 ⟨[101,120,116,101,114,110,97,108],[[.nm [115,112,101,99,115,49], .nm [64,116,121,112,101,100], .nm [100,101,99,108,97,114,97,116,111,114], .nm [64,102,117,110,99,116,105,111,110], .nm [98,108,111,99,107,48], .nm [64,99,108,111,115,101]],[.nm [100,101,99,108,97,114,97,116,105,111,110]]],[2,0]⟩,
 ⟨[100,101,99,108,97,114,97,116,105,111,110],[[.nm [115,112,101,99,115,49], .nm [64,116,121,112,101,100], .dO [[.nm [105,110,105,116,100,101,99,108], .bV [[.tx [44], .nm [105,110,105,116,100,101,99,108]]]]], .tx [59]],[.nm [97,115,115,101,114,116]]],[3,0]⟩,
 ⟨[97,115,115,101,114,116],[[.tx [95,83,116,97,116,105,99,95,97,115,115,101,114,116], .tx [40], .nm [99,104,111,105,99,101], .tx [44], .nm [115,116,114,105,110,103], .bV [[.nm [115,116,114,105,110,103]]], .tx [41], .tx [59]]],[4]⟩,
 ⟨[105,110,105,116,100,101,99,108],[[.nm [100,101,99,108,97,114,97,116,111,114], .nm [64,100,101,99,108,97,114,101], .dO [[.tx [61], .nm [105,110,105,116,105,97,108,105,122,101,114]]]]],[13]⟩,
 ⟨[115,117],[[.tx [115,116,114,117,99,116]],[.tx [117,110,105,111,110]]],[0,0]⟩,
 ⟨[114,101,99,111,114,100],[[.nm [115,117], .dO [[.nm [110,97,109,101]]], .tx [123], .nm [109,101,109,98,101,114], .bV [[.nm [109,101,109,98,101,114]]], .tx [125]],[.nm [115,117], .nm [110,97,109,101]]],[6,6]⟩,
 ⟨[109,101,109,98,101,114],[[.nm [115,112,101,99,115,48], .dO [[.nm [102,105,101,108,100], .bV [[.tx [44], .nm [102,105,101,108,100]]]]], .tx [59]],[.nm [97,115,115,101,114,116]]],[7,0]⟩,
 ⟨[102,105,101,108,100],[[.nm [100,101,99,108,97,114,97,116,111,114], .dO [[.tx [58], .nm [99,104,111,105,99,101]]]],[.tx [58], .nm [99,104,111,105,99,101]]],[8,8]⟩,
 ⟨[101,110,117,109],[[.tx [101,110,117,109], .dO [[.nm [110,97,109,101]]], .tx [123], .nm [101,110,117,109,101,114,97,116,111,114], .bV [[.tx [44], .nm [101,110,117,109,101,114,97,116,111,114]]], .dO [[.tx [44]]], .tx [125]],[.tx [101,110,117,109], .nm [110,97,109,101]]],[9,9]⟩,
 ⟨[101,110,117,109,101,114,97,116,111,114],[[.nm [110,97,109,101], .dO [[.tx [61], .nm [99,104,111,105,99,101]]], .nm [64,101,110,117,109,101,114,97,116,101]]],[10]⟩,
 ⟨[97,108,105,103,110],[[.tx [95,65,108,105,103,110,97,115], .tx [40], .jy [[.nm [116,121,112,101,110,97,109,101]],[.nm [99,104,111,105,99,101]]], .tx [41]]],[11]⟩,
 ⟨[97,116,111,109,105,99],[[.tx [95,65,116,111,109,105,99], .tx [40], .nm [116,121,112,101,110,97,109,101], .tx [41]]],[12]⟩,
 ⟨[100,101,99,108,97,114,97,116,111,114],[[.bV [[.nm [115,116,97,114]]], .jy [[.nm [110,97,109,101]],[.tx [40], .nm [100,101,99,108,97,114,97,116,111,114], .tx [41]]], .bV [[.nm [115,117,102,102,105,120]]]]],[14]⟩,
 ⟨[112,100,101,99,108,97,114,97,116,111,114],[[.bV [[.nm [115,116,97,114]]], .jy [[.nm [110,97,109,101]],[.tx [40], .nm [64,110,111,115,112,101,99], .nm [112,100,101,99,108,97,114,97,116,111,114], .tx [41]]], .bV [[.nm [115,117,102,102,105,120]]]]],[14]⟩,
 ⟨[97,98,115,116,114,97,99,116],[[.bV [[.nm [115,116,97,114]]], .dO [[.tx [40], .nm [64,110,111,115,112,101,99], .nm [97,98,115,116,114,97,99,116], .tx [41]]], .bV [[.nm [115,117,102,102,105,120]]], .nm [64,115,111,109,101]]],[14]⟩,
 ⟨[115,116,97,114],[[.tx [42], .bV [[.nm [113,117,97,108]]]]],[0]⟩,
 ⟨[113,117,97,108],[[.tx [99,111,110,115,116]],[.tx [114,101,115,116,114,105,99,116]],[.tx [118,111,108,97,116,105,108,101]],[.tx [95,65,116,111,109,105,99], .nm [64,110,111,112,97,114,101,110]]],[0,0,0,0]⟩,
 ⟨[115,117,102,102,105,120],[[.tx [91], .bV [[.nm [113,117,97,108]]], .dO [[.jy [[.nm [97,115,115,105,103,110]],[.tx [42]]]]], .tx [93]],[.tx [91], .tx [115,116,97,116,105,99], .bV [[.nm [113,117,97,108]]], .nm [97,115,115,105,103,110], .tx [93]],[.tx [91], .nm [113,117,97,108], .bV [[.nm [113,117,97,108]]], .tx [115,116,97,116,105,99], .nm [97,115,115,105,103,110], .tx [93]],[.tx [40], .nm [64,111,112,101,110], .dO [[.nm [112,97,114,97,109], .bV [[.tx [44], .nm [112,97,114,97,109]]], .dO [[.tx [44], .tx [46,46,46]]]]], .tx [41], .nm [64,99,108,111,115,101]]],[15,15,15,16]⟩,
 ⟨[112,97,114,97,109],[[.nm [115,112,101,99,115,49], .nm [64,116,121,112,101,100], .dO [[.jy [[.nm [112,100,101,99,108,97,114,97,116,111,114], .nm [64,100,101,99,108,97,114,101]],[.nm [97,98,115,116,114,97,99,116]]]]]]],[17]⟩,
 ⟨[116,121,112,101,110,97,109,101],[[.nm [115,112,101,99,115,48], .dO [[.nm [97,98,115,116,114,97,99,116]]]]],[18]⟩,
 ⟨[105,110,105,116,105,97,108,105,122,101,114],[[.nm [97,115,115,105,103,110]],[.nm [108,105,115,116]]],[0,0]⟩,
 ⟨[108,105,115,116],[[.tx [123], .nm [105,116,101,109], .bV [[.tx [44], .nm [105,116,101,109]]], .dO [[.tx [44]]], .tx [125]]],[19]⟩,
 ⟨[105,116,101,109],[[.dO [[.nm [100,101,115,105,103], .bV [[.nm [100,101,115,105,103]]], .tx [61]]], .nm [105,110,105,116,105,97,108,105,122,101,114]]],[20]⟩,
 ⟨[100,101,115,105,103],[[.tx [91], .nm [99,104,111,105,99,101], .tx [93]],[.tx [46], .nm [110,97,109,101]]],[21,21]⟩,
 ⟨[98,108,111,99,107],[[.nm [64,111,112,101,110], .nm [98,108,111,99,107,48], .nm [64,99,108,111,115,101]]],[0]⟩,
 ⟨[98,108,111,99,107,48],[[.tx [123], .bV [[.jy [[.nm [100,101,99,108,97,114,97,116,105,111,110]],[.nm [115,116,97,116,101,109,101,110,116]]]]], .tx [125]]],[22]⟩,
 ⟨[112,97,114,116],[[.nm [64,111,112,101,110], .nm [115,116,97,116,101,109,101,110,116], .nm [64,99,108,111,115,101]]],[0]⟩,
 ⟨[115,116,97,116,101,109,101,110,116],[[.nm [110,97,109,101], .tx [58], .nm [115,116,97,116,101,109,101,110,116]],[.tx [99,97,115,101], .nm [99,104,111,105,99,101], .tx [58], .nm [115,116,97,116,101,109,101,110,116]],[.tx [100,101,102,97,117,108,116], .tx [58], .nm [115,116,97,116,101,109,101,110,116]],[.nm [98,108,111,99,107]],[.dO [[.nm [101,120,112,114]]], .tx [59]],[.nm [64,111,112,101,110], .tx [105,102], .tx [40], .nm [101,120,112,114], .tx [41], .nm [112,97,114,116], .jy [[.tx [101,108,115,101], .nm [112,97,114,116]],[.nm [64,110,111,101,108,115,101]]], .nm [64,99,108,111,115,101]],[.nm [64,111,112,101,110], .tx [115,119,105,116,99,104], .tx [40], .nm [101,120,112,114], .tx [41], .nm [112,97,114,116], .nm [64,99,108,111,115,101]],[.nm [64,111,112,101,110], .tx [119,104,105,108,101], .tx [40], .nm [101,120,112,114], .tx [41], .nm [112,97,114,116], .nm [64,99,108,111,115,101]],[.nm [64,111,112,101,110], .tx [100,111], .nm [112,97,114,116], .tx [119,104,105,108,101], .tx [40], .nm [101,120,112,114], .tx [41], .tx [59], .nm [64,99,108,111,115,101]],[.nm [64,111,112,101,110], .tx [102,111,114], .tx [40], .jy [[.dO [[.nm [101,120,112,114]]], .tx [59]],[.nm [100,101,99,108,97,114,97,116,105,111,110]]], .dO [[.nm [101,120,112,114]]], .tx [59], .dO [[.nm [101,120,112,114]]], .tx [41], .nm [112,97,114,116], .nm [64,99,108,111,115,101]],[.tx [103,111,116,111], .nm [110,97,109,101], .tx [59]],[.tx [99,111,110,116,105,110,117,101], .tx [59]],[.tx [98,114,101,97,107], .tx [59]],[.tx [114,101,116,117,114,110], .dO [[.nm [101,120,112,114]]], .tx [59]]],[23,24,25,0,26,27,28,29,30,31,32,32,32,32]⟩,
 ⟨[99,97,115,116],[[.nm [117,110,97,114,121]],[.tx [40], .nm [116,121,112,101,110,97,109,101], .tx [41], .nm [99,97,115,116]]],[0,46]⟩,
 ⟨[117,110,111,112],[[.tx [38]],[.tx [42]],[.tx [43]],[.tx [45]],[.tx [126]],[.tx [33]]],[0,0,0,0,0,0]⟩,
 ⟨[117,110,97,114,121],[[.nm [112,111,115,116,102,105,120]],[.tx [43,43], .nm [117,110,97,114,121]],[.tx [45,45], .nm [117,110,97,114,121]],[.nm [117,110,111,112], .nm [99,97,115,116]],[.tx [115,105,122,101,111,102], .nm [117,110,97,114,121]],[.tx [115,105,122,101,111,102], .tx [40], .nm [116,121,112,101,110,97,109,101], .tx [41]],[.tx [95,65,108,105,103,110,111,102], .tx [40], .nm [116,121,112,101,110,97,109,101], .tx [41]]],[0,47,47,47,48,48,48]⟩,
 ⟨[108,105,116,101,114,97,108],[[.tx [40], .nm [116,121,112,101,110,97,109,101], .tx [41], .nm [108,105,115,116]]],[53]⟩,
 ⟨[112,114,105,109,97,114,121],[[.nm [112,108,97,105,110]],[.nm [99,111,110,115,116,97,110,116]],[.nm [115,116,114,105,110,103], .bV [[.nm [115,116,114,105,110,103]]]],[.tx [40], .nm [101,120,112,114], .tx [41]],[.tx [95,71,101,110,101,114,105,99], .tx [40], .nm [97,115,115,105,103,110], .tx [44], .nm [97,115,115,111,99], .bV [[.tx [44], .nm [97,115,115,111,99]]], .tx [41]]],[57,58,58,56,54]⟩,
 ⟨[97,115,115,111,99],[[.jy [[.nm [116,121,112,101,110,97,109,101]],[.tx [100,101,102,97,117,108,116]]], .tx [58], .nm [97,115,115,105,103,110]]],[55]⟩]
def iN(env:List (List Sd))(x:Bs):Bool:=match(env.flatten.reverse.find? fun p=>p.1==x)with
 |some p=>p.2
 |none=>false
def fV(env:List (List Sd))(x:Bs)(b:Bool):List (List Sd):=if x=[]then env else env.dropLast++[env.getLastD []++[(x,b)]]
def qY(env:List (List Sd)):List (List Sd):=env++[[]]
def qZ:List Bs:=[[118,111,105,100],[99,104,97,114],[115,104,111,114,116],[105,110,116],[108,111,110,103],[102,108,111,97,116],[100,111,117,98,108,101],[115,105,103,110,101,100],[117,110,115,105,103,110,101,100],[95,66,111,111,108],[95,67,111,109,112,108,101,120]]
def uV:List Bs:=[[99,111,110,115,116],[114,101,115,116,114,105,99,116],[118,111,108,97,116,105,108,101]]
def rf:List Bs:=[[116,121,112,101,100,101,102],[101,120,116,101,114,110],[115,116,97,116,105,99],[95,84,104,114,101,97,100,95,108,111,99,97,108],[97,117,116,111],[114,101,103,105,115,116,101,114],[105,110,108,105,110,101],[95,78,111,114,101,116,117,114,110]]
def ql:List Bs:=[[95,65,116,111,109,105,99],[115,116,114,117,99,116],[117,110,105,111,110],[101,110,117,109]]
def FN(k:Nat):List Bs:=([[[44]],[[124,124]],[[38,38]],[[124]],[[94]],[[38]],[[61,61],[33,61]],[[60],[62],[60,61],[62,61]],[[60,60],[62,62]],[[43],[45]],[[42],[47],[37]]]:List (List Bs)).getD k []
def yR:List Bs:=[[61],[42,61],[47,61],[37,61],[43,61],[45,61],[60,60,61],[62,62,61],[38,61],[94,61],[124,61]]
def gZ(k:Nat):Nat:=if k=0 then 33 else 35+k
section
variable (l:List Ct)
def bz(i:Nat):Int:=if i<l.length then(l.getD i ⟨0,[]⟩).c else 0
def bM(i:Nat):Bs:=(l.getD i ⟨0,[]⟩).t
def dJ(i:Nat)(t:Bs):Bool:=decide (i<l.length)&&(l.getD i ⟨0,[]⟩).c==(if t.headD 0==95||(97≤t.headD 0&&t.headD 0≤122)then 1 else 7)&&(l.getD i ⟨0,[]⟩).t==t
def iY(env:List (List Sd))(i:Nat)(all:Bool):Bool:=
 if bz l i=2 then iN env (bM l i)
 else if bz l i≠1 then false
 else qZ.contains (bM l i)||uV.contains (bM l i)||ql.contains (bM l i)||(all&&(rf.contains (bM l i)||bM l i==[95,65,108,105,103,110,97,115]))
def Dx:Nat→Nat→Nat→Nat
 |0,i,hi=>i
 |n+1,i,hi=>if i<hi∧(dJ l i [42]=true∨bz l i=1)then Dx n (i+1) hi else i
def Q7(lo hi:Nat):Bs:=let i:=Dx l (hi - lo) lo hi;if i<hi∧bz l i=2 then bM l i else[]
def jE:Tr→Bs
 | .mk _ lo hi [] _=>Q7 l lo hi
 | .mk _ lo hi (x::_) _=>if x.k=14 then jE x else Q7 l lo hi
def dG:Tr→Option (Option Tr)
 | .mk _ lo _ [] _=>if dJ l lo [42]then some none else none
 | .mk _ lo _ (x::r) _=>if x.k=14 then(match dG x with
    |some y=>some y
    |none=>match r with
     |y::_=>some (some y)
     |[]=>if dJ l lo [42]then some none else none)else some (some x)
def jV(hi:Nat):Nat→Nat→List Tr→Bool
 |0,_,_=>false
 |n+1,i,ks=>if i<hi then match ks with
   |x::r=>if x.lo=i then jV hi (hi+1) x.hi r else(dJ l i [116,121,112,101,100,101,102]||jV hi n (i+1) (x::r))
   |[]=>dJ l i [116,121,112,101,100,101,102]||jV hi n (i+1) []
  else false
 termination_by n _ ks=>(ks.length,n)
def jC(s:Sx)(b:Bool):List Sx:=if b then[{s with af:=s.af+1}]else[]
def gU(s:Sx)(r:Sx)(t:Tr):Sx:={s with af:=r.af,env:=r.env,ah:=s.ah++[t]}
def bn(s r:Sx)(k:Nat):Sx:=if 0<k then gU s r (.mk k s.af r.af r.ah (if k=16 then r.cl else[]))else{s with af:=r.af,env:=r.env,ah:=s.ah++r.ah}
def iA(k lo:Nat)(r:Sx)(ks:List Tr):Sx:={af:=r.af,env:=r.env,ah:=[.mk k lo r.af ks []]}
def jA(s:Sx):Tr:=s.ah.getLastD (.mk 0 0 0 [] [])
def j3(w:Bs)(s:Sx)(rq:Nat):List Sx:=
 if w=[64,116,121,112,101,100]then[{s with ty:=jV l (jA s).hi ((jA s).hi+1) (jA s).lo (jA s).ah}]
 else if w=[64,100,101,99,108,97,114,101]then[{s with env:=fV s.env (jE l (jA s)) s.ty}]
 else if w=[64,101,110,117,109,101,114,97,116,101]then[{s with env:=fV s.env (bM l rq) false}]
 else if w=[64,111,112,101,110]then[{s with env:=qY s.env}]
 else if w=[64,99,108,111,115,101]then[{s with cl:=s.env.getLastD [],env:=s.env.dropLast}]
 else if w=[64,102,117,110,99,116,105,111,110]then match dG l (jA s)with
  |some (some x)=>if x.k=16 then[{s with env:=x.mf.foldl (fun e d=>fV e d.1 d.2) (qY (fV s.env (jE l (jA s)) s.ty))}]else[]
  |_=>[]
 else if w=[64,110,111,115,112,101,99]then(if iY l s.env s.af true=false∧dJ l s.af [41]=false then[s]else[])
 else if w=[64,110,111,112,97,114,101,110]then(if dJ l s.af [40]=false then[s]else[])
 else if w=[64,110,111,101,108,115,101]then(if dJ l s.af [101,108,115,101]=false then[s]else[])
 else if w=[64,115,111,109,101]then(if rq<s.af then[s]else[])
 else[s]
structure So where
 s:Sx
 b:Nat
 w:Nat
inductive Rq
 |seq (y:List Sy) (rq:Nat) (ss:List Sx)
 |ay (y:Sy) (s:Sx) (rq:Nat)
 |bV (a:List (List Sy)) (bB:List Sx)
 |call (w:Bs) (s:Sx)
 |dh (all:Bool) (s:Sx) (bB:List So)
 |dB (k:Nat) (s:Sx)
 |iB (k:Nat) (s:Sx) (bB:List Sx)
 |dx (s:Sx)
 |assign (s:Sx)
 |args (s:Sx)
 |jT (s:Sx)
 |iO (s:Sx) (bB:List Sx)
def bu{α β:Type}(f:α→Option (List β)):List α→Option (List β)
 |[]=>some []
 |a::r=>(f a).bind fun x=>(bu f r).bind fun y=>some (x++y)
def fresh(s:Sx):Sx:={af:=s.af,env:=s.env}
def zT:Tr:= .mk 0 0 0 [] []
def aG{α:Type}(x:List α):Option (List α):=if x.length≤1000 then some x else none
variable (g:Rq→Option (List Sx))
def Bo(a:List (List Sy))(s:Sx):Option (List Sx):=(bu (fun y=>g (.seq y s.af [s])) a).bind aG
def Au(a:List (List Sy))(s:Sx):Option (List Sx):=(Bo g a s).bind fun y=>some (y.filter fun z=>s.af<z.af)
def Dy(w:Bs)(s:Sx)(R:Ru):Option (List Sx):=if R.name=w then bu (fun p=>((g (.seq p.1 s.af [{af:=s.af,env:=s.env,ty:=s.ty}])).bind aG).bind fun x=>some (x.map fun r=>bn s r p.2)) (R.mh.zip R.iL)else some []
def jO(w:Bs)(s:Sx):Option (List Sx):=
 if w=[110,97,109,101]then some (jC s (bz l s.af==2))
 else if w=[112,108,97,105,110]then some (jC s (bz l s.af==2&&!iN s.env (bM l s.af)))
 else if w=[99,111,110,115,116,97,110,116]then some (jC s (bz l s.af==3||bz l s.af==4||bz l s.af==5))
 else if w=[115,116,114,105,110,103]then some (jC s (bz l s.af==6))
 else if w=[115,112,101,99,115,48]then g (.dh false s [⟨fresh s,0,0⟩])
 else if w=[115,112,101,99,115,49]then g (.dh true s [⟨fresh s,0,0⟩])
 else if w=[101,120,112,114]then g (.dB 0 s)
 else if w=[97,115,115,105,103,110]then g (.assign s)
 else if w=[99,104,111,105,99,101]then g (.dx s)
 else if w=[112,111,115,116,102,105,120]then g (.jT s)
 else(bu (Dy g w s) dU).bind aG
def ic(all:Bool)(x:So):Option (List So):=
 if iY l x.s.env x.s.af all=false then some []
 else if bz l x.s.af=1∧qZ.contains (bM l x.s.af)=true then some (if 0<x.w then[]else[⟨{x.s with af:=x.s.af+1},x.b+1,x.w⟩])
 else if bz l x.s.af=1∧(uV.contains (bM l x.s.af)=true∨rf.contains (bM l x.s.af)=true∨(bM l x.s.af=[95,65,116,111,109,105,99]∧dJ l (x.s.af+1) [40]=false))then some [⟨{x.s with af:=x.s.af+1},x.b,x.w⟩]
 else if bz l x.s.af=1∧bM l x.s.af=[95,65,108,105,103,110,97,115]then(g (.call [97,108,105,103,110] x.s)).bind fun z=>some (z.map fun y=>(⟨y,x.b,x.w⟩:So))
 else if 0<x.b+x.w then some []
 else if bz l x.s.af≠1 then some [⟨{x.s with af:=x.s.af+1},x.b,x.w+1⟩]
 else(g (.call (if bM l x.s.af=[95,65,116,111,109,105,99]then[97,116,111,109,105,99]else if bM l x.s.af=[101,110,117,109]then[101,110,117,109]else[114,101,99,111,114,100]) x.s)).bind fun z=>some (z.map fun y=>(⟨y,0,1⟩:So))
def iM(s:Sx)(x:So):Option Sx:=if 0<x.b+x.w then some (gU s x.s (.mk 5 s.af x.s.af x.s.ah []))else none
def vJ(k:Nat)(s:Sx):Option (List Sx):=if k=0 then g (.call [97,115,115,105,103,110] s)else g (.dB (k+1) s)
def dF(s x:Sx):Sx:=gU s x (x.ah.headD zT)
def wZ(k p:Nat):Bool:=bz l p==7&&(FN k).contains (bM l p)
def jh(k:Nat)(s x:Sx):Option (List Sx):=if wZ l k x.af then(vJ g k {af:=x.af+1,env:=x.env}).bind fun r=>some (r.map fun y=>iA (gZ k) s.af y [x.ah.headD zT,y.ah.headD zT])else some []
def nS(s y:Sx):Option (List Sx):=(if dJ l y.af [63]then(g (.seq [.nm [101,120,112,114], .tx [58], .nm [99,104,111,105,99,101]] (y.af+1) [{af:=y.af+1,env:=y.env}])).bind aG else some []).bind fun r=>
 some (dF s y::r.map fun z=>dF s (iA 35 s.af z [y.ah.headD zT,z.ah.getD 0 zT,z.ah.getD 1 zT]))
def mX(s y:Sx):Option (List Sx):=(if 47≤(y.ah.headD zT).k∧bz l y.af=7∧yR.contains (bM l y.af)=true then g (.assign {af:=y.af+1,env:=y.env})else some []).bind fun r=>
 some (dF s y::r.map fun z=>dF s (iA 34 s.af z [y.ah.headD zT,z.ah.headD zT]))
def ru(x:Sx):Option (Nat×List Sx):=
 if dJ l x.af [91]then((g (.seq [.nm [101,120,112,114], .tx [93]] (x.af+1) [{af:=x.af+1,env:=x.env}])).bind aG).map fun z=>(49,z)
 else if dJ l x.af [40]then(g (.args {af:=x.af+1,env:=x.env})).map fun z=>(50,z)
 else if dJ l x.af [46]||dJ l x.af [45,62]then(g (.call [110,97,109,101] {af:=x.af+1,env:=x.env})).map fun z=>(51,z)
 else if dJ l x.af [43,43]||dJ l x.af [45,45]then some (52,[{af:=x.af+1,env:=x.env}])else some (0,[])
def jF(s x:Sx):Option (List Sx):=(ru l g x).bind fun p=>some (p.2.map fun y=>iA p.1 s.af y (x.ah.headD zT::y.ah))
def F:Rq→Option (List Sx)
 | .seq [] _ ss=>some ss
 | .seq (y::r) f ss=>((bu (fun s=>g (.ay y s f)) ss).bind aG).bind fun x=>g (.seq r f x)
 | .ay (.tx t) s _=>some (jC s (dJ l s.af t))
 | .ay (.nm t) s f=>if t.headD 0=64 then some (j3 l t s f)else g (.call t s)
 | .ay (.dO a) s _=>(Bo g a s).bind fun x=>aG (s::x)
 | .ay (.jy a) s _=>Bo g a s
 | .ay (.bV a) s _=>(g (.bV a [s])).bind fun x=>aG (s::x)
 | .bV a bB=>if bB.isEmpty then some []else(bu (Au g a) bB).bind fun x=>(g (.bV a x)).bind fun y=>aG (x++y)
 | .call w s=>jO l g w s
 | .dh all s bB=>if bB.isEmpty then some []else((bu (ic l g all) bB).bind aG).bind fun x=>(g (.dh all s x)).bind fun y=>aG (bB.filterMap (iM s)++y)
 | .dB k s=>if k=11 then g (.call [99,97,115,116] s)else(vJ g k (fresh s)).bind fun x=>g (.iB k s x)
 | .iB k s bB=>if bB.isEmpty then some []else(bu (jh l g k s) bB).bind fun x=>(g (.iB k s x)).bind fun y=>aG (bB.map (dF s)++y)
 | .dx s=>(g (.dB 1 (fresh s))).bind fun x=>(bu (nS l g s) x).bind aG
 | .assign s=>(g (.dx (fresh s))).bind fun x=>(bu (mX l g s) x).bind aG
 | .args s=>(g (.seq [.dO [[.nm [97,115,115,105,103,110], .bV [[.tx [44], .nm [97,115,115,105,103,110]]]]], .tx [41]] s.af [s])).bind aG
 | .jT s=>(g (.call [112,114,105,109,97,114,121] (fresh s))).bind fun x=>(g (.call [108,105,116,101,114,97,108] (fresh s))).bind fun y=>(aG (x++y)).bind fun z=>g (.iO s z)
 | .iO s bB=>if bB.isEmpty then some []else(bu (jF l g s) bB).bind fun x=>(g (.iO s x)).bind fun y=>aG (bB.map (dF s)++y)
def gV:Nat→Rq→Option (List Sx)
 |0,_=>none
 |n+1,q=>F l (gV n) q
end
mutual
def lY:Tr→List Nd
 | .mk k lo hi ks _=>let r:=iI ks;⟨k,lo,hi,r.length+1⟩::r
def iI:List Tr→List Nd
 |[]=>[]
 |t::r=>lY t++iI r
end
abbrev uW:List UInt8:=[95,83,116,97,116,105,99,95,97,115,115,101,114,116]
abbrev jk:List UInt8:=[97,115,115,105,103,110]
abbrev mY:List UInt8:=[115,116,97,116,101,109,101,110,116]
abbrev qF:List UInt8:=[116,121,112,101,110,97,109,101]
abbrev tH:List UInt8:=[105,110,105,116,100,101,99,108]
abbrev pM:List UInt8:=[115,116,97,116,105,99]
abbrev AA:List UInt8:=[100,101,99,108,97,114,97,116,105,111,110]
abbrev Cr:List UInt8:=[105,110,105,116,105,97,108,105,122,101,114]
abbrev ry:List UInt8:=[117,110,97,114,121]
abbrev AB:List UInt8:=[97,98,115,116,114,97,99,116]
abbrev qJ:List UInt8:=[115,117,102,102,105,120]
abbrev kL:List UInt8:=[113,117,97,108]
abbrev lq:List UInt8:=[101,120,112,114]
abbrev sO:List UInt8:=[99,104,111,105,99,101]
abbrev Bp:List UInt8:=[101,110,117,109,101,114,97,116,111,114]
abbrev vL:List UInt8:=[112,114,105,109,97,114,121]
abbrev yS:List UInt8:=[95,65,108,105,103,110,97,115]
abbrev Ef:List UInt8:=[112,100,101,99,108,97,114,97,116,111,114]
abbrev Cs:List UInt8:=[100,101,99,108,97,114,97,116,111,114]
abbrev nT:List UInt8:=[110,97,109,101]
abbrev nU:List UInt8:=[99,97,115,116]
abbrev yT:List UInt8:=[112,111,115,116,102,105,120]
abbrev yU:List UInt8:=[108,105,116,101,114,97,108]
abbrev xS:List UInt8:=[115,116,114,105,110,103]
abbrev rF:List UInt8:=[101,110,117,109]
abbrev zW:List UInt8:=[109,101,109,98,101,114]
abbrev Cu:List UInt8:=[64,110,111,115,112,101,99]
abbrev Bq:List UInt8:=[64,116,121,112,101,100]
abbrev Eg:List UInt8:=[116,121,112,101,100,101,102]
abbrev Eh:List UInt8:=[95,65,116,111,109,105,99]
abbrev Cv:List UInt8:=[115,105,122,101,111,102]
abbrev Cy:List UInt8:=[115,112,101,99,115,49]
abbrev Hq:List UInt8:=[99,111,110,115,116,97,110,116]
abbrev Hr:List UInt8:=[64,100,101,99,108,97,114,101]
abbrev FO:List UInt8:=[100,101,102,97,117,108,116]
abbrev Ei:List UInt8:=[64,99,108,111,115,101]
abbrev uR:List UInt8:=[46,46,46]
abbrev FP:List UInt8:=[97,116,111,109,105,99]
abbrev FQ:List UInt8:=[114,101,99,111,114,100]
abbrev Nt:List UInt8:=[64,102,117,110,99,116,105,111,110]
abbrev zX:List UInt8:=[108,105,115,116]
abbrev Nu:List UInt8:=[95,71,101,110,101,114,105,99]
abbrev Ht:List UInt8:=[115,112,101,99,115,48]
abbrev Nv:List UInt8:=[64,110,111,112,97,114,101,110]
abbrev Br:List UInt8:=[115,116,97,114]
abbrev FR:List UInt8:=[112,108,97,105,110]
abbrev FT:List UInt8:=[112,97,114,97,109]
abbrev FU:List UInt8:=[97,108,105,103,110]
abbrev Cz:List UInt8:=[101,108,115,101]
abbrev Nw:List UInt8:=[64,110,111,101,108,115,101]
abbrev KF:List UInt8:=[98,108,111,99,107,48]
abbrev Q8:List UInt8:=[114,101,115,116,114,105,99,116]
abbrev Q9:List UInt8:=[118,111,108,97,116,105,108,101]
abbrev Hu:List UInt8:=[119,104,105,108,101]
abbrev Hw:List UInt8:=[64,115,111,109,101]
abbrev Ej:List UInt8:=[112,97,114,116]
abbrev Ra:List UInt8:=[101,120,116,101,114,110,97,108]
abbrev X5:List UInt8:=[64,101,110,117,109,101,114,97,116,101]
abbrev Ny:List UInt8:=[115,116,114,117,99,116]
abbrev KG:List UInt8:=[102,105,101,108,100]
abbrev X6:List UInt8:=[95,65,108,105,103,110,111,102]
abbrev Nz:List UInt8:=[117,110,105,111,110]
abbrev NA:List UInt8:=[64,111,112,101,110]
abbrev NB:List UInt8:=[100,101,115,105,103]
abbrev aiR:List UInt8:=[95,84,104,114,101,97,100,95,108,111,99,97,108]
abbrev Rb:List UInt8:=[99,111,110,115,116]
abbrev Rc:List UInt8:=[97,115,115,111,99]
abbrev ac8:List UInt8:=[99,111,110,116,105,110,117,101]
abbrev X7:List UInt8:=[114,101,116,117,114,110]
abbrev X8:List UInt8:=[115,119,105,116,99,104]
abbrev NC:List UInt8:=[117,110,111,112]
abbrev X9:List UInt8:=[97,115,115,101,114,116]
abbrev El:List UInt8:=[43,43]
abbrev Em:List UInt8:=[45,45]
abbrev Ya:List UInt8:=[98,108,111,99,107]
abbrev Re:List UInt8:=[105,116,101,109]
abbrev aiS:List UInt8:=[95,78,111,114,101,116,117,114,110]
abbrev Yb:List UInt8:=[99,97,115,101]
abbrev Yc:List UInt8:=[103,111,116,111]
abbrev aiT:List UInt8:=[114,101,103,105,115,116,101,114]
abbrev aiU:List UInt8:=[117,110,115,105,103,110,101,100]
abbrev aiV:List UInt8:=[95,67,111,109,112,108,101,120]
abbrev Hy:List UInt8:=[45,62]
abbrev ada:List UInt8:=[98,114,101,97,107]
abbrev Rf:List UInt8:=[102,111,114]
abbrev ND:List UInt8:=[115,117]
end Go.Proofs.YtlboejdhmggjpaaGreat.Pp.Dr
namespace Go.Proofs.YtlboejdhmggjpaaGreat
open Go Go.RowKit
section
variable {P:Program} {Q:Exit→Act→World→Prop}
end
end Go.Proofs.YtlboejdhmggjpaaGreat
namespace Go.Proofs.YtlboejdhmggjpaaGreat.Pp.Dr
open Go.RowKit Go.BigFrame Go.Proofs.YtlboejdhmggjpaaGreat
def Rw(S:Nat→Prop)(size:Nat)(w:World)(v:Value)(gs:List (List Value)):Prop:=
 ∃a c,v= .slice a gs.length c∧(a=none→gs=[]∧c=0)∧(gs=[]∨∃b off,a=some ⟨b,off,none⟩∧S b∧b<w.heap.size∧∀i (h:i<gs.length),dX w b (off+i*size) gs[i])∧(∀g∈gs,g.length=size∧∀u∈g,u.oneCell'=true)∧gs.length≤maxLen∧gs.length≤c
structure To (S:Nat→Prop) (w:World) (T:Nat→Prop) (w':World):Prop where
 size:w.heap.size≤w'.heap.size
 eq:∀b,S b→b<w.heap.size→w'.heap[b]? =w.heap[b]? ∧T b
theorem To.below{S:Nat→Prop}{w w':World}(h:Below w.heap.size w w'):To S w S w':=⟨h.size,fun b hb hl=>⟨h.block b hl,hb⟩⟩
theorem To.mono{S T:Nat→Prop}{w:World}(h:∀b,S b→b<w.heap.size→T b):To S w T w:=⟨υ _,fun b hb hl=>⟨rfl,h b hb hl⟩⟩
theorem To.trans{S T U:Nat→Prop}{w w' w'':World}(h:To S w T w')(k:To T w' U w''):To S w U w'':=⟨aaT h.size k.size,fun b hb hl=>by
 obtain⟨h1,h2⟩:=h.eq b hb hl
 obtain⟨h3,h4⟩:=k.eq b h2 (abB hl h.size)
 exact⟨h3.trans h1,h4⟩⟩
theorem dX.same{w w':World}{b o:Nat}{cs:List Value}(h:dX w b o cs)(e:w'.heap[b]? =w.heap[b]?):dX w' b o cs:=fun j v hv=>by
 have:=h j v hv
 unfold World.cell? at this⊢
 rw[e];exact this
theorem Rw.to{S T:Nat→Prop}{size:Nat}{w w':World}{v:Value}{gs:List (List Value)}(h:Rw S size w v gs)(k:To S w T w'):Rw T size w' v gs:=by
 obtain⟨a,c,h1,h2,h3,h4⟩:=h
 refine⟨a,c,h1,h2,?_,h4⟩
 rcases h3 with h3|⟨b,off,e,hS,hl,hc⟩
 ·exact .inl h3
 ·obtain⟨k1,k2⟩:=k.eq b hS hl
  exact .inr ⟨b,off,e,k2,abB hl k.size,fun i hi=>dX.same (hc i hi) k1⟩
theorem Rw.nil{S:Nat→Prop}{size:Nat}{w:World}:Rw S size w (.slice none 0 0) []:=⟨none,0,rfl,fun _=>⟨rfl,rfl⟩, .inl rfl,(fun g hg=>(by cases hg)),Ω _,Ω _⟩
def MX(d:Sd):List Value:=[.string (au d.1), .bool d.2]
def vg(S:Nat→Prop)(w:World)(v:Value)(ds:List Sd):Prop:=Rw S 2 w v (ds.map MX)
def nI(S:Nat→Prop)(w:World):List (List Sd)→List (List Value)→Prop
 |[],gs=>gs=[]
 |d::r,gs=>∃v gr,gs=[v]::gr∧vg S w v d∧nI S w r gr
def nZ(S:Nat→Prop)(w:World)(v:Value)(env:List (List Sd)):Prop:=∃gs,Rw S 1 w v gs∧nI S w env gs
mutual
def kF(S:Nat→Prop)(w:World):Tr→List Value→Prop
 | .mk k lo hi ks ds,g=>∃vk vd gs,g=[.int .i64 k, .int .i64 lo, .int .i64 hi,vk,vd]∧Rw S 5 w vk gs∧jZ S w ks gs∧vg S w vd ds
def jZ(S:Nat→Prop)(w:World):List Tr→List (List Value)→Prop
 |[],gs=>gs=[]
 |t::r,gs=>∃g gr,gs=g::gr∧kF S w t g∧jZ S w r gr
end
def l5(S:Nat→Prop)(w:World)(v:Value)(ts:List Tr):Prop:=∃gs,Rw S 5 w v gs∧jZ S w ts gs
def fJ(S:Nat→Prop)(w:World)(x:Sx)(g:List Value):Prop:=∃vE vK vC,g=[.int .i64 x.af,vE,vK, .bool x.ty,vC]∧nZ S w vE x.env∧l5 S w vK x.ah∧vg S w vC x.cl
def pX(S:Nat→Prop)(w:World):List Sx→List (List Value)→Prop
 |[],gs=>gs=[]
 |x::r,gs=>∃g gr,gs=g::gr∧fJ S w x g∧pX S w r gr
def dS(S:Nat→Prop)(w:World)(v:Value)(xs:List Sx):Prop:=∃gs,Rw S 5 w v gs∧pX S w xs gs
section
variable {S T:Nat→Prop} {w w':World} (k:To S w T w')
include k
theorem nI.to:∀{env:List (List Sd)} {gs:List (List Value)},nI S w env gs→nI T w' env gs
 |[],_,h=>h
 |d::r,_,⟨v,gr,h1,h2,h3⟩=>⟨v,gr,h1,Rw.to h2 k,nI.to h3⟩
theorem nZ.to{v:Value}{env:List (List Sd)}(h:nZ S w v env):nZ T w' v env:=let ⟨gs,h1,h2⟩:=h;⟨gs,h1.to k,nI.to k h2⟩
mutual
theorem kF.to:∀{t:Tr} {g:List Value},kF S w t g→kF T w' t g
 | .mk _ lo hi ks ds,_,⟨vk,vd,gs,h1,h2,h3,h4⟩=>⟨vk,vd,gs,h1,h2.to k,jZ.to h3,Rw.to h4 k⟩
theorem jZ.to:∀{ts:List Tr} {gs:List (List Value)},jZ S w ts gs→jZ T w' ts gs
 |[],_,h=>h
 |t::r,_,⟨g,gr,h1,h2,h3⟩=>⟨g,gr,h1,kF.to h2,jZ.to h3⟩
end
theorem l5.to{v:Value}{ts:List Tr}(h:l5 S w v ts):l5 T w' v ts:=let ⟨gs,h1,h2⟩:=h;⟨gs,h1.to k,jZ.to k h2⟩
theorem fJ.to{x:Sx}{g:List Value}(h:fJ S w x g):fJ T w' x g:=let ⟨vE,vK,vC,h1,h2,h3,h4⟩:=h;⟨vE,vK,vC,h1,h2.to k,h3.to k,Rw.to h4 k⟩
theorem pX.to:∀{xs:List Sx} {gs:List (List Value)},pX S w xs gs→pX T w' xs gs
 |[],_,h=>h
 |x::r,_,⟨g,gr,h1,h2,h3⟩=>⟨g,gr,h1,h2.to k,pX.to h3⟩
theorem dS.to{v:Value}{xs:List Sx}(h:dS S w v xs):dS T w' v xs:=let ⟨gs,h1,h2⟩:=h;⟨gs,h1.to k,pX.to k h2⟩
end
section
variable {S:Nat→Prop} {w:World}
theorem pX.fK:∀{xs ys:List Sx} {gs hs:List (List Value)},pX S w xs gs→pX S w ys hs→pX S w (xs++ys) (gs++hs)
 |[],_,_,_,h,k=>by rw[show _=[]from h];exact k
 |x::r,_,_,_,⟨g,gr,h1,h2,h3⟩,k=>by rw[h1];exact⟨g,gr++_,rfl,h2,pX.fK h3 k⟩
theorem jZ.fK:∀{xs ys:List Tr} {gs hs:List (List Value)},jZ S w xs gs→jZ S w ys hs→jZ S w (xs++ys) (gs++hs)
 |[],_,_,_,h,k=>by rw[show _=[]from h];exact k
 |x::r,_,_,_,⟨g,gr,h1,h2,h3⟩,k=>by rw[h1];exact⟨g,gr++_,rfl,h2,jZ.fK h3 k⟩
theorem pX.len:∀{xs:List Sx} {gs:List (List Value)},pX S w xs gs→gs.length=xs.length
 |[],_,h=>by rw[show _=[]from h];rfl
 |x::r,_,⟨g,gr,h1,h2,h3⟩=>by rw[h1,aaJ,aaJ,pX.len h3]
theorem jZ.len:∀{xs:List Tr} {gs:List (List Value)},jZ S w xs gs→gs.length=xs.length
 |[],_,h=>by rw[show _=[]from h];rfl
 |x::r,_,⟨g,gr,h1,h2,h3⟩=>by rw[h1,aaJ,aaJ,jZ.len h3]
end
theorem Rw.xG{S:Nat→Prop}{w:World}{base e size:Nat}{v:Value}{n:Nat}{gs:List (List Value)}(h:w.ownsRow base e size v n gs.flatten)(hn:gs.length=n)(hS:∀b,v.ownBlock=some b→S b)(hg:∀g∈gs,g.length=size∧∀u∈g,u.oneCell'=true):Rw S size w v gs:=by
 subst hn
 rcases h.2 with⟨rfl,h0⟩|⟨g,cap,cur,rfl,hb,hc,h1,h2,h3,h4⟩
 ·have:gs=[]:=acM h0
  subst this;exact Rw.nil
 ·refine⟨some ⟨g,0,none⟩,cap,rfl,(fun e=>(by cases e)), .inr ⟨g,0,rfl,hS g rfl,(ψ.1 hc).1,fun i hi=>?_⟩,hg,aaT h1 h2,h1⟩
  have G6:=dX.Cc hc;intro j u hj;rw[acK]
  have hlen:∀(L:List (List Value)),(∀g∈L,g.length=size)→∀i (hi:i<L.length),∀j,j<size→L.flatten[i*size+j]? =L[i][j]? :=fun L=>by
   induction L with
   |nil=>intro _ i hi;simp at hi
   |cons a r ih=>
    intro hL i hi j hj;have ha:=hL a (ab6 ..)
    cases i with
    |zero=>rw[Nat.zero_mul,acK,afI,afS η];rfl
    |succ i=>
     rw[afI,acF (by rw[ha,agO];omega),ha,show(i+1)*size+j - size=i*size+j by rw[agO];omega];exact ih (fun g hg=>hL g (abM _ hg)) i (by simpa using hi) j hj
  have hjs:j<size:=by
   have:=(hg gs[i] (ab2 hi)).1;have h9:j<gs[i].length:=(aca.1 hj).1;omega
  have e:=hlen gs (fun g h=>(hg g h).1) i hi j hjs;rw[←h4,List.getElem?_take]at e
  split at e
  ·have:=G6 (i*size+j) u (by rw[e];exact hj)
   rw[acK]at this;exact this
  ·rw[show(gs[i])[j]? =some u from hj]at e;cases e
set_option maxRecDepth 100000
set_option maxHeartbeats 16000000
def GB(w:World)(gb:Nat)(L:List Ct)(vr:Value):Prop:=∃la lc,w.heap[gb]? =some (.cells #[.slice la L.length lc,vr] 84 (0,0))∧oV 2 sV w la L∧L.length≤100000
variable {L : List Ct}{vr : Value}
theorem GB.ext {w w':World}{gb:Nat}(h:GB w gb L vr)(hb:Below w.heap.size w w'):GB w' gb L vr:=
 let ⟨la,lc,h1,h2,h3⟩:=h
 ⟨la,lc,aF hb h1 (ψ.1 h1).1,h2.below hb (υ _) hb.size,h3⟩
abbrev gP(gb:Nat):Value:= .pointer (some ⟨gb,0,none⟩)
theorem lT {w:World}{gb:Nat}(hG:GB w gb L vr)(i:Nat)(hi:i≤100000):Calls Tryz.prog 57 #[gP gb, .int .i64 i] w fun e w'=>e= .returned (.int .i64 (bz L i))∧Below w.heap.size w w':=by
 obtain⟨la,lc,hbx,hrow,hl⟩:=hG
 obtain⟨n,hn⟩:∃n,L.length=n:=⟨_,rfl⟩
 obtain⟨z,hz⟩:∃z,bz L i=z:=⟨_,rfl⟩
 have c0:w.cell? ⟨gb,0,none⟩=some (.slice la n lc):=by simp[World.cell?,hbx,hn]
 rw[hz]
 by_cases hlt:i<n
 ·obtain⟨b,off,rfl,hb,hc⟩:=hrow.at (by rintro rfl;simp at hn;omega)
  have d0:w.cell? ⟨b,off+i*2,none⟩=some (.int .i64 z):=by
   have:=hc i η 0 _ rfl;rw[←hz];unfold bz;rw[ω η,abN,abE η];exact this
  have h2:decide (i<n)=true:=aa4 hlt;clear hrow hc hbx hz
  go_enter Tryz.func57,Tryz.ntmps57
  go_wp2_with fail
  all_goals first
   |(go_ret;exact⟨rfl,Below.refl _ _⟩)
   |skip
 ·have hz:z=0:=by rw[←hz];unfold bz;rw[χ η]
  subst hz;have h2:decide (i<n)=false:=aa5 hlt;clear hrow hbx
  go_enter Tryz.func57,Tryz.ntmps57
  go_wp2_with fail
  all_goals first
   |(go_ret;exact⟨rfl,Below.refl _ _⟩)
   |skip
theorem JP(x t:Bs):((au x).toList==(au t).toList)=(x==t):=by
 rw[ByteArray.toList_eq,ByteArray.toList_eq,nG,nG]
theorem rY {w:World}{gb:Nat}(hG:GB w gb L vr)(i:Nat)(hi:i≤100000)(t:Bs)(ht:t≠[])(hm:t.length≤1000):Calls Tryz.prog 101 #[gP gb, .int .i64 i, .string (au t)] w fun e w'=>e= .returned (.bool (dJ L i t))∧Below w.heap.size w w':=by
 obtain⟨la,lc,hbx,hrow,hl⟩:=hG
 have ht0:0<t.length:=acN.2 ht
 have hw:(t.headD 0==95||(97≤t.headD 0&&t.headD 0≤122))=(((((au t)[0]'(by rw[ko];exact ht0)).toNat:Int)==95)||(decide (97≤(((au t)[0]'(by rw[ko];exact ht0)).toNat:Int))&&decide ((((au t)[0]'(by rw[ko];exact ht0)).toNat:Int)≤122))):=by
  obtain⟨a,r,rfl⟩:=afO ht;show(a==95||(decide (97≤a)&&decide (a≤122)))=(((a.toNat:Int)==95)||(decide (97≤(a.toNat:Int))&&decide ((a.toNat:Int)≤122)))
  have e1:(a==95)=((a.toNat:Int)==95):=by
   rw[ags,aaZ,aaZ,←agL];show a.toNat=95↔_;omega
  have e2:decide (97≤a)=decide (97≤(a.toNat:Int)):=by
   rw[decide_eq_decide,UInt8.le_iff_toNat_le];show 97≤a.toNat↔_;omega
  have e3:decide (a≤122)=decide ((a.toNat:Int)≤122):=by
   rw[decide_eq_decide,UInt8.le_iff_toNat_le];show a.toNat≤122↔_;omega
  rw[e1,e2,e3]
 obtain⟨n,hn⟩:∃n,L.length=n:=⟨_,rfl⟩
 obtain⟨z,hz⟩:∃z,dJ L i t=z:=⟨_,rfl⟩
 have c0:∀m,(w.drewN m).cell? ⟨gb,0,none⟩=some (.slice la n lc):=fun m=>by simp[World.cell?,hbx,hn]
 have c1:w.cell? ⟨gb,0,none⟩=some (.slice la n lc):=by simp[World.cell?,hbx,hn]
 rw[hz]
 by_cases hlt:i<n
 ·obtain⟨b,off,rfl,hb,hc⟩:=hrow.at (by rintro rfl;simp at hn;omega)
  have zM:i<L.length:=by omega
  have hz2:=hz;unfold dJ at hz2;rw[hw,aa4 zM,af5,abN,abE zM]at hz2;have G6:=hc i zM;obtain⟨T,hT⟩:∃T,L[i]=T:=⟨_,rfl⟩;rw[hT]at G6 hz2;obtain⟨c,x⟩:=T;have d0:w.cell? ⟨b,off+i*2,none⟩=some (.int .i64 c):=G6 0 _ rfl;have d1:w.cell? ⟨b,off+i*2+1,none⟩=some (.string (au x)):=G6 1 _ rfl;have h2:decide (i<n)=true:=aa4 hlt;clear hrow hc hbx hz G6 hT c0 hw ht
  go_enter Tryz.func101,Tryz.ntmps101
  go_wp2_with fail
  all_goals(go_ret;refine⟨?_,Below.refl _ _⟩;subst hz2;simp_all[JP];try(first|(intro h;split at h<;>(exfalso;omega))|(intros;omega)))
 ·have hz:z=false:=by rw[←hz];unfold dJ;rw[aa5 η];rfl
  subst hz;have h2:decide (i<n)=false:=aa5 hlt;clear hrow hbx c0 hw ht
  go_enter Tryz.func101,Tryz.ntmps101
  go_wp2_with fail
  all_goals(go_ret;exact⟨rfl,Below.refl _ _⟩)
variable {S : Nat→Prop}{v : Value}
theorem Rw.sl {n:Nat}{w:World}{gs:List (List Value)}(h:Rw S n w v gs):v.oneCell'=true:=by
 obtain⟨a,c,rfl, -⟩:=h;rfl
theorem fJ.ay{S:Nat→Prop}{w:World}{x:Sx}{g:List Value}(h:fJ S w x g):g.length=5∧∀u∈g,u.oneCell'=true:=by
 obtain⟨vE,vK,vC,rfl,⟨_,h1, -⟩,⟨_,h2, -⟩,h3⟩:=h
 refine⟨rfl,fun u hu=>?_⟩
 simp only[abf,abZ,acz]at hu
 rcases hu with rfl|rfl|rfl|rfl|rfl
 ·rfl
 ·exact h1.sl
 ·exact h2.sl
 ·rfl
 ·exact Rw.sl h3
theorem kF.ay{S:Nat→Prop}{w:World}{t:Tr}{g:List Value}(h:kF S w t g):g.length=5∧∀u∈g,u.oneCell'=true:=by
 obtain⟨k,lo,hi,ks,ds⟩:=t
 obtain⟨vk,vd,gs,rfl,h1, -,h3⟩:=h
 refine⟨rfl,fun u hu=>?_⟩
 simp only[abf,abZ,acz]at hu
 rcases hu with rfl|rfl|rfl|rfl|rfl
 ·rfl
 ·rfl
 ·rfl
 ·exact h1.sl
 ·exact Rw.sl h3
theorem Rw.kJ{S:Nat→Prop}{n m:Nat}{w:World}{g:List Value}(t:TypeId)(hm:w.heap.size=m)(hS:S m)(hg:g.length=n∧∀u∈g,u.oneCell'=true):Rw S n (w.alloc (.cells g.toArray t)) (.slice (some ⟨m,0,none⟩) 1 1) [g]:=by
 subst hm
 refine⟨_,_,rfl,(fun e=>(by cases e)), .inr ⟨w.heap.size,0,rfl,hS,by simp,fun i hi=>?_⟩,fun u hu=>by rw[Φ.1 hu];exact hg,(by decide:1≤maxLen),υ _⟩
 obtain rfl:i=0:=by simp at hi;exact hi
 have:=dX.Cc (dz w g.toArray t)
 rw[Nat.zero_mul]
 exact this
theorem dS.kJ{S:Nat→Prop}{m:Nat}{w:World}{x:Sx}{g:List Value}(t:TypeId)(hm:w.heap.size=m)(hS:S m)(h:fJ S w x g):dS S (w.alloc (.cells g.toArray t)) (.slice (some ⟨m,0,none⟩) 1 1) [x]:=⟨[g],Rw.kJ t hm hS h.ay,g,[],rfl,h.to (.below (ag _ _)),rfl⟩
def nw(S:Nat→Prop)(n b:Nat):Prop:=S b∨n≤b
theorem ig{S:Nat→Prop}{w w':World}{n:Nat}(h:Below w.heap.size w w'):To S w (nw S n) w':=(To.below h).trans (.mono fun b hb _=> .inl hb)
theorem dS.nil {w:World}:dS S w (.slice none 0 0) []:=⟨[],Rw.nil,rfl⟩
variable {g : List Value}
theorem Gt {w:World}{x:Sx}(hx:fJ S w x g)(b:Bool)(hat:x.af≤100000):Calls Tryz.prog 58 #[.agg g.toArray, .bool b] w fun e w'=>∃v,e= .returned v∧Below w.heap.size w w'∧dS (nw S w.heap.size) w' v (jC x b):=by
 obtain⟨vE,vK,vC,rfl,h1,h2,h3⟩:=hx
 obtain⟨af,env,ah,ty,cl⟩:=x
 have hat:af≤100000:=hat
 cases b with
 |false=>
  go_enter Tryz.func58,Tryz.ntmps58
  go_wp2_with fail
  go_ret;exact⟨_,rfl,ag _ _,dS.nil⟩
 |true=>
  go_enter Tryz.func58,Tryz.ntmps58
  go_wp2_with fail
  go_ret;have hb:=ag w (.cells #[.int .i64 ((af:Int)+1),vE,vK, .bool ty,vC] 51);exact⟨_,rfl,hb.alloc hb.size _,(dS.kJ (w:=w.alloc _) (x:=⟨af+1,env,ah,ty,cl⟩) 51 ν (.inr (abK _)) ⟨vE,vK,vC,rfl,h1.to (ig hb),h2.to (ig hb),Rw.to h3 (ig hb)⟩)⟩
variable {a c d e : Value}
theorem fQ {W:World}{m:Nat}{b : Value}{t:TypeId}(h:W.heap[m]? =some (.cells #[a,b,c,d,e] t (0,0))):W.cell? ⟨m,0,none⟩=some a∧W.cell? ⟨m,1,none⟩=some b∧W.cell? ⟨m,2,none⟩=some c∧W.cell? ⟨m,3,none⟩=some d∧W.cell? ⟨m,4,none⟩=some e:=by
 refine⟨?_,?_,?_,?_,?_⟩<;>simp[World.cell?,h]
theorem l5.kJ{S:Nat→Prop}{m:Nat}{w:World}{t:Tr}{g:List Value}(ty:TypeId)(hm:w.heap.size=m)(hS:S m)(h:kF S w t g):l5 S (w.alloc (.cells g.toArray ty)) (.slice (some ⟨m,0,none⟩) 1 1) [t]:=⟨[g],Rw.kJ ty hm hS h.ay,g,[],rfl,h.to (.below (ag _ _)),rfl⟩
theorem Um {w:World}{r:Sx}(hx:fJ S w r g)(k lo:Nat)(v:Value)(ks:List Tr)(hk:l5 S w v ks):Calls Tryz.prog 100 #[.int .i64 k, .int .i64 lo, .agg g.toArray,v] w fun e w'=>∃g',e= .returned (.agg g'.toArray)∧Below w.heap.size w w'∧fJ (nw S w.heap.size) w' (iA k lo r ks) g':=by
 obtain⟨vE,vK,vC,rfl,h1,h2,h3⟩:=hx
 obtain⟨af,env,ah,ty,cl⟩:=r
 have hv:v.oneCell'=true:=hk.choose_spec.1.sl
 have hE:vE.oneCell'=true:=h1.choose_spec.1.sl
 obtain⟨av,nv,cv,rfl⟩:∃a n c,v= .slice a n c:=by obtain⟨gs,⟨a,c,h, -⟩, -⟩:=hk;exact⟨a,_,c,h⟩
 obtain⟨ae,ne,ce,rfl⟩:∃a n c,vE= .slice a n c:=by obtain⟨gs,⟨a,c,h, -⟩, -⟩:=h1;exact⟨a,_,c,h⟩
 go_enter Tryz.func100,Tryz.ntmps100
 go_wp2_with fail
 have hb1:=ag w (.cells #[.int .i64 af, .slice ae ne ce,vK, .bool ty,vC] 51)
 have hb2:=hb1.alloc hb1.size (.cells #[.int .i64 af, .slice ae ne ce, .slice (some ⟨w.heap.size+1+1,0,none⟩) 1 1, .bool false, .slice none 0 0] 51)
 have hb3:=hb2.alloc hb2.size (.cells #[.int .i64 k, .int .i64 lo, .int .i64 af, .slice av nv cv, .slice none 0 0] 35)
 refine abw (v:= .agg [.int .i64 af, .slice ae ne ce, .slice (some ⟨w.heap.size+1+1,0,none⟩) 1 1, .bool false, .slice none 0 0].toArray) ?_ rfl ⟨_,rfl,hb3,_,_,_,rfl,h1.to (ig hb3),?_,Rw.nil⟩
 ·have hh:=aF (ag (((w.alloc _).alloc _)) (.cells #[.int .i64 k, .int .i64 lo, .int .i64 af, .slice av nv cv, .slice none 0 0] 35)) (dz (w.alloc (.cells #[.int .i64 af, .slice ae ne ce,vK, .bool ty,vC] 51)) #[.int .i64 af, .slice ae ne ce, .slice (some ⟨w.heap.size+1+1,0,none⟩) 1 1, .bool false, .slice none 0 0] 51) ν
  rw[show(w.alloc (.cells #[.int .i64 af, .slice ae ne ce,vK, .bool ty,vC] 51)).heap.size=w.heap.size+1 by simp]at hh;generalize (((w.alloc _).alloc _).alloc _)=W at hh⊢;obtain⟨c0,c1,c2,c3,c4⟩:=fQ hh;clear hh;simp[results,Tryz.results100,go_sem,c0,c1,c2,c3,c4]
 ·obtain⟨gs,h4,h5⟩:=hk.to (ig (n:=w.heap.size) hb2)
  refine l5.kJ (m:=w.heap.size+1+1) (t:= .mk k lo af ks []) 35 ν (.inr η) ⟨_,_,gs,rfl,h4,h5,Rw.nil⟩
end Go.Proofs.YtlboejdhmggjpaaGreat.Pp.Dr
namespace Go.Proofs.YtlboejdhmggjpaaGreat
open Go Go.RowKit
section
variable {P:Program} {md:Region.Mode}
def Gx(P:Program)(R:Value→World→Prop):Result Next→Prop
 | .ok (.value v) w=>R v w
 | .ok .skip w=>R undef w
 | .ok (.enter f args) w=>Calls P f args w fun e w'=>match e with
    | .returned v=>R v w'
    |_=>False
 | .ok (.row r args) w=>Rows P r args w R
 |_=>False
def qQ(P:Program)(C:World→Prop)(R:Value→World→Prop)(o:Oper)(a:Act):Prop:=∀w,C w→Gx P R ((execOp a.eval o).run P w)
theorem qQ.wp{C:World→Prop}{R:Value→World→Prop}{o:Oper}{a:Act}(h:qQ P C R o a){w:World}(hw:C w){K:Act→World→Prop}{Q:Exit→Act→World→Prop}(hk:∀v w',R v w'→K (a.put o.dst v) w'):o.wp P a w K Q:=by
 have h1:=h w hw
 unfold Oper.wp Oper.upon
 cases hr:(execOp a.eval o).run P w with
 |ok n w'=>
  rw[hr]at h1
  cases n with
  |value v=>exact hk _ _ h1
  |skip=>exact hk _ _ h1
  |defer d=>exact h1.elim
  |enter f args=>
   refine Calls.mono (R:=fun e w'=>match e with| .returned v=>R v w'|_=>False) h1 fun e w'' he=>?_
   cases e with
   |returned v=>exact hk _ _ he
   |panicked c=>exact he.elim
   |outgrown=>exact he.elim
  |row r args=>exact Rows.mono h1 fun v w'' hv=>hk _ _ hv
  |_=>exact h1.elim
 |halt e w'=>rw[hr]at h1;exact h1.elim
theorem qQ.of{C:World→Prop}{K:Act→World→Prop}{o:Oper}{ops:Array Oper}{a:Act}(hg:o.guard=none)(h:∀w,C w→wpList P ops (fun e b w'=>e= .normal∧b.defers=a.defers∧K b w') [o] a w):qQ P C (fun v w'=>K (a.put o.dst v) w') o a:=fun w hw=>by
 have h1:=h w hw
 unfold wpList at h1
 rw[ω (by unfold Region.wanted;rw[hg])]at h1
 rcases h1 with h1|⟨-,a',w',h2, -⟩
 ·unfold Oper.wp Oper.upon at h1
  cases hr:(execOp a.eval o).run P w with
  |ok n w'=>
   rw[hr]at h1
   cases n with
   |value v=>exact h1.2.2
   |skip=>exact h1.2.2
   |defer d=>
    have:=h1.2.1
    cases hd:o.dst<;>simp[Act.put,hd]at this
   |enter f args=>
    refine Calls.mono h1 fun e w'' he=>?_
    cases e with
    |returned v=>exact he.2.2
    |panicked c=>exact (by cases he.1)
    |outgrown=>obtain⟨_,_,h, -⟩:=he;exact (by cases h)
   |row r args=>exact Rows.mono h1 fun v w'' hv=>hv.2.2
   |_=>exact h1.elim
  |halt e w'=>
   rw[hr]at h1
   cases e<;>first|exact h1.elim|exact (by cases h1.1)
 ·cases h2
def oE(P:Program)(C:World→Prop)(R:Value→World→Prop)(val:Nat→Value)(k:Nat)(u:Value)(i:Nat)(o:Oper)(a:Act)(v:Value):Prop:=
 if i=k then v=u∧qQ P C R o a else v=val i∧∀w,C w→o.quietAt P a C w v
variable {C : World→Prop}
theorem ail {R:Value→World→Prop}{val:Nat→Value}{k:Nat}{u:Value}:∀i o (a a':Act) v,execOp a'.eval o=execOp a.eval o→oE P C R val k u i o a v→oE P C R val k u i o a' v:=fun i o a a' v he h=>by
 unfold oE qQ Oper.quietAt at*;rw[he];exact h
def alW(md:Region.Mode)(l:List Oper)(k:Nat)(ok:Oper):Bool:=(List.range l.length).all fun i=>i==k||(match l[i]? with|some o=>qc o|none=>false)||ok.after.any fun e=>Region.binds md e&&e.on==i
variable {a : Act}{Q : Exit→Act→World→Prop}
theorem Db {o:Oper}{w:World}{v:Value}(hp:qc o=true)(h:o.quietAt P a C w v){K:Act→World→Prop}(hk:K (a.put o.dst v) w):o.wp P a w K Q:=by
 have:=yI hp h
 unfold Oper.wp
 rw[this];exact hk
theorem aco{C:World→Prop}{R:Value→World→Prop}{val:Nat→Value}{l:List Oper}{k:Nat}{ok:Oper}{Qf:Value→Act→Prop}{Q':Exit→Act→World→Prop}(hk:l[k]? =some ok)(hgk:ok.guard=none)(hB:uf md l l.length=true)(hd:alW md l k ok=true)
  (hR:∀u w,R u w→C w) (hQ:∀u a w,Qf u a→R u w→Q' .normal a w):∀(fuel:Nat) (listed:Array Bool) (a:Act) (w:World),listed.size=l.length→
    ((listed.getD k true=false∧C w∧∀u,wX md l.toArray (oE P C R val k u) (Qf u) fuel listed a)∨(listed.getD k true=true∧(∀e∈ok.after,Region.binds md e=true→listed.getD e.on true=true)∧∃u,R u w∧wX md l.toArray (oE P C R val k u) (Qf u) fuel listed a))→wpAny P md l.toArray Q' fuel listed a w:=by
 have hkl:=(aca.1 hk).1
 have fw:∀(listed:Array Bool) (a:Act) (w:World),listed.size=l.length→Region.ready md l.toArray listed=[]→((listed.getD k true=false∧C w∧∀u,Qf u a)∨(listed.getD k true=true∧∃u,R u w∧Qf u a))→Q' .normal a w:=fun listed a w hs hr h=>by
  rcases h with⟨h1, -, -⟩|⟨-,u,h1,h2⟩
  ·have:=Ay (n:=l.length) (lh:=listed) hB hs (by rw[acR];exact hr) k hkl
   rw[ni η,this]at h1;cases h1
  ·exact hQ u a w h2 h1
 intro fuel
 induction fuel with
 |zero=>
  intro listed a w hs h
  rcases h with⟨h1,h2,h3⟩|⟨h1,h2,u,h3,h4⟩
  ·exact⟨(h3 undef).1,fw listed a w hs (h3 undef).1 (.inl ⟨h1,h2,fun u=>(h3 u).2⟩)⟩
  ·exact⟨h4.1,fw listed a w hs h4.1 (.inr ⟨h1,u,h3,h4.2⟩)⟩
 |succ fuel ih=>
  intro listed a w hs h;refine⟨fun h0=>fw listed a w hs h0 ?_,fun i hi=>?_⟩
  ·rcases h with⟨h1,h2,h3⟩|⟨h1,h2,u,h3,h4⟩
   ·exact .inl ⟨h1,h2,fun u=>(h3 u).1 h0⟩
   ·exact .inr ⟨h1,u,h3,h4.1 h0⟩
  obtain⟨hun,o,ho,hall⟩:=mem_ready.1 hi
  have hil:i<l.length:=by simpa using (ψ.1 ho).1
  have hs2:(listed.setIfInBounds i true).size=l.length:=by simp[hs]
  unfold wpOp;simp only[ho];by_cases hik:i=k
  ·subst hik
   obtain rfl:o=ok:=aau ((show l[i]? =some o by simpa using ho).symm.trans hk)
   rcases h with⟨h1,h2,h3⟩|⟨h1,h2,u,h3,h4⟩
   case inr=>rw[hun]at h1;cases h1
   have hwt:Region.wanted o (yielded l.toArray a.tmps)=true:=by unfold Region.wanted;rw[hgk]
   rw[ω hwt];left;obtain⟨v,hy, -⟩:=(h3 undef).2 i hi o ho
   have hsp:qQ P C R o a:=by
    rcases hy with⟨_,hE⟩|⟨hw1,_⟩
    ·unfold oE at hE;rw[ω rfl]at hE;exact hE.2
    ·rw[hwt]at hw1;cases hw1
   refine hsp.wp h2 fun u w' hu=>ih _ _ _ hs2 (.inr ⟨by simp[hs,hil],fun e he hb=>?_,u,hu,?_⟩)
   ·have:=hall e he hb
    by_cases P6:i=e.on
    ·rw[←P6];simp[hs,hil]
    ·rw[getD_set_ne true P6]
     rcases agi e.on listed.size with h'|h'
     ·rw[ni h'];exact this
     ·rw[agA,agv h'];rfl
   ·obtain⟨v,hy,hK⟩:=(h3 u).2 i hi o ho
    rcases hy with⟨_,hE⟩|⟨hw1,_⟩
    ·unfold oE at hE;rw[ω rfl]at hE;rw[hE.1]at hK;exact hK
    ·rw[hwt]at hw1;cases hw1
  ·have hnk:(listed.setIfInBounds i true).getD k true=listed.getD k true:=getD_set_ne true hik
   have dep:∀e∈ok.after,Region.binds md e=true→listed.getD e.on true=true→(listed.setIfInBounds i true).getD e.on true=true:=fun e _ _ h=>by
    by_cases P6:i=e.on
    ·rw[←P6];simp[hs,hil]
    ·rw[getD_set_ne true P6];exact h
   rcases h with⟨h1,h2,h3⟩|⟨h1,h2,u,h3,h4⟩
   ·
    have all:∃v,(Region.wanted o (yielded l.toArray a.tmps)=true∧(∀w,C w→o.quietAt P a C w v)∨Region.wanted o (yielded l.toArray a.tmps)=false∧v=undef)∧∀u,wX md l.toArray (oE P C R val k u) (Qf u) fuel (listed.setIfInBounds i true) (a.put o.dst v):=by
     obtain⟨v,hy,hK⟩:=(h3 undef).2 i hi o ho;refine⟨v,hy.imp (fun h=>⟨h.1,by have:=h.2;unfold oE at this;rw[χ hik]at this;exact this.2⟩) id,fun u=>?_⟩;obtain⟨v',hy',hK'⟩:=(h3 u).2 i hi o ho
     have:v'=v:=by
      rcases hy with⟨g1,g2⟩|⟨g1,rfl⟩<;>rcases hy' with⟨k1,k2⟩|⟨k1,rfl⟩
      ·unfold oE at g2 k2
       rw[χ hik]at g2 k2;exact k2.1.trans g2.1.symm
      ·rw[g1]at k1;cases k1
      ·rw[g1]at k1;cases k1
      ·rfl
     rw[this]at hK';exact hK'
    obtain⟨v,hv,hK⟩:=all
    rcases hv with⟨g1,g2⟩|⟨g1,rfl⟩
    ·rw[ω g1]
     left;refine Oper.wp_of_quiet (C:=C) (K:=fun b=>b=a.put o.dst v) h2 (fun b w' hw' hb=>?_) ⟨v,g2,rfl⟩;rw[hb];exact ih _ _ _ hs2 (.inl ⟨hnk.trans h1,hw',hK⟩)
    ·rw[χ (by rw[g1];simp)]
     exact ih _ _ _ hs2 (.inl ⟨hnk.trans h1,h2,hK⟩)
   ·obtain⟨v,hy,hK⟩:=h4.2 i hi o ho
    have hnext:∀b,b=a.put o.dst v→wpAny P md l.toArray Q' fuel (listed.setIfInBounds i true) b w:=fun b hb=>by
     rw[hb];exact ih _ _ _ hs2 (.inr ⟨hnk.trans h1,fun e he hb=>dep e he hb (h2 e he hb),u,h3,hK⟩)
    rcases hy with⟨g1,g2⟩|⟨g1,rfl⟩
    ·rw[ω g1]
     left;unfold oE at g2;rw[χ hik]at g2
     have hp:qc o=true:=by
      have:=Θ.1 hd i (acD.2 hil);simp only[ack,aaZ]at this
      rcases this with(h|h)|h
      ·exact absurd h hik
      ·rw[show l[i]? =some o by simpa using ho]at h;exact h
      ·obtain⟨j,hj,he⟩:=af6.1 h
       simp only[aaS,aaZ]at he;have:=h2 _ (af8 hj) he.1;rw[he.2,hun]at this;cases this
     exact Db hp (g2.2 w (hR u w h3)) (hnext _ rfl)
    ·rw[χ (by rw[g1];simp)]
     exact hnext _ rfl
theorem EC{ops:Array Oper}{C:World→Prop}{K:Act→Prop}:∀(l1 l2:List Oper) (a:Act),wpQuiet P ops C K (l1++l2) a→wpQuiet P ops C (wpQuiet P ops C K l2) l1 a
 |[],_,_,h=>h
 |o::l1,l2,a,h=>by
  rw[List.cons_append]at h;unfold wpQuiet at h⊢
  split at h
  ·next hw=>
   rw[ω hw];obtain⟨v,h1,h2⟩:=h;exact⟨v,h1,EC l1 l2 _ h2⟩
  ·next hw=>rw[χ hw];exact EC l1 l2 _ h
theorem I8{ops:Array Oper}{C:World→Prop}{k:Nat}{K:Act→Prop}:∀(l1:List Oper) (i:Nat) (a:Act),i+l1.length≤k→wpQuiet P ops C K l1 a→
  ∃(val:Nat→Value) (a':Act),K a'∧∀(R:Value→World→Prop) (l6:Nat→Value) (u:Value) (rest:List Oper) (Qs:Act→Prop),(∀j,i≤j→j<i+l1.length→l6 j=val j)→kG ops (oE P C R l6 k u) Qs (i+l1.length) rest a'→kG ops (oE P C R l6 k u) Qs i (l1++rest) a
 |[],i,a,_,h=>⟨fun _=>undef,a,h,fun _ _ _ _ _ _ h=>h⟩
 |o::l1,i,a,hi,h=>by
  rw[aaJ]at hi;unfold wpQuiet at h
  split at h
  ·next hw=>
   obtain⟨v,h1,h2⟩:=h;obtain⟨val,a',k1,k2⟩:=I8 (k:=k) l1 (i+1) _ η h2;refine⟨fun j=>if j=i then v else val j,a',k1,fun R l6 u rest Qs hv hs=>⟨v, .inl ⟨hw,?_⟩,k2 R l6 u rest Qs (fun j h1 h2=>?_) ?_⟩⟩
   ·unfold oE;rw[χ η];exact⟨by rw[hv i (υ _) (by rw[aaJ];omega)];exact(ω rfl).symm,h1⟩
   ·rw[hv j η (by rw[aaJ];omega)];exact χ η
   ·rw[aaJ]at hs;rw[show i+1+l1.length=i+(l1.length+1) by omega];exact hs
  ·next hw=>
   obtain⟨val,a',k1,k2⟩:=I8 (k:=k) l1 (i+1) _ η h;refine⟨val,a',k1,fun R l6 u rest Qs hv hs=>⟨undef, .inr ⟨by simpa using hw,rfl⟩,k2 R l6 u rest Qs (fun j h1 h2=>hv j η (by rw[aaJ];omega)) ?_⟩⟩;rw[aaJ]at hs;rw[show i+1+l1.length=i+(l1.length+1) by omega];exact hs
theorem Gy{ops:Array Oper}{C:World→Prop}{k:Nat}{K:Act→Prop}{ok:Oper}(hok:∀cs b,ok.op≠ .select cs b):∀(l2:List Oper) (i:Nat) (a:Act),k<i→(∀o∈l2,ok.apart ops o=true∧∀cs b,o.op≠ .select cs b)→wpQuiet P ops C K l2 a→
  ∃(val:Nat→Value) (a':Act),K a'∧execOp a'.eval ok=execOp a.eval ok∧∀(R:Value→World→Prop) (l6:Nat→Value) (u:Value),(∀j,i≤j→l6 j=val j)→kG ops (oE P C R l6 k u) (fun b=>b=a'.put ok.dst u) i l2 (a.put ok.dst u)
 |[],i,a,_,_,h=>⟨fun _=>undef,a,h,rfl,fun _ _ _ _=>rfl⟩
 |o::l2,i,a,hi,ha,h=>by
  obtain⟨hap,hse⟩:=ha o (ab6 ..);obtain⟨p1,p2,p3⟩:=Oper.apart_spec hap
  have hwp:∀u,Region.wanted o (yielded ops (a.put ok.dst u).tmps)=Region.wanted o (yielded ops a.tmps):=fun u=>wanted_put o a ok.dst u p1
  have hex:∀v,execOp (a.put o.dst v).eval ok=execOp a.eval ok:=fun v=>execOp_put (ops:=ops) ok hok a o.dst v p3
  have hcm:∀u v,(a.put ok.dst u).put o.dst v=(a.put o.dst v).put ok.dst u:=fun u v=>(Act.put_comm a u v p2)
  unfold wpQuiet at h
  split at h
  ·next hw=>
   obtain⟨v,h1,h2⟩:=h;obtain⟨val,a',k1,k0,k2⟩:=Gy (k:=k) hok l2 (i+1) _ η (fun o ho=>ha o (abM _ ho)) h2;refine⟨fun j=>if j=i then v else val j,a',k1,k0.trans (hex v),fun R l6 u hv=>⟨v, .inl ⟨(hwp u).trans hw,?_⟩,?_⟩⟩
   ·unfold oE;rw[χ η]
    refine⟨by rw[hv i (υ _)];exact(ω rfl).symm,fun w hw=>?_⟩;have:=h1 w hw;unfold Oper.quietAt at this⊢;rw[execOp_put (ops:=ops) o hse a ok.dst u p1];exact this
   ·rw[hcm];exact k2 R l6 u fun j hj=>by rw[hv j η];exact χ η
  ·next hw=>
   obtain⟨val,a',k1,k0,k2⟩:=Gy (k:=k) hok l2 (i+1) _ η (fun o ho=>ha o (abM _ ho)) h;refine⟨val,a',k1,k0.trans (hex _),fun R l6 u hv=>⟨undef, .inr ⟨by rw[hwp u];simpa using hw,rfl⟩,?_⟩⟩
   rw[hcm];exact k2 R l6 u fun j hj=>hv j η
def aeF(l:List Oper)(k:Nat):Bool:=uf .any l l.length&&Region.lexB .any l.toArray&&match l[k]? with
 |some ok=>ok.guard.isNone&&alW .any l k ok&&(l.drop (k+1)).all (fun o=>ok.apart l.toArray o)
 |none=>false
theorem Qz {id:Nat}{w:World}{l:List Oper}(n k:Nat)(C:World→Prop)(hm:P.follows .mixedOrders=true)(hB:(nN l n&&aeF (l.take n) k)=true)(hC:C (World.drew w))(h:wpQuiet P (l.take n).toArray C (fun a'=>∀ok,(l.take n)[k]? =some ok→∀K:Act→World→Prop,(∀b w2,C w2→wpList P l.toArray Q (l.drop n) b w2→K b w2)→∀w',C w'→wpList P (l.take n).toArray (fun e b w2=>e= .normal∧b.defers=a'.defers∧K b w2) [ok] a' w') ((l.take n).take k++(l.take n).drop (k+1)) a):(Code.region id l.toArray true).wp P Q a w:=by
 refine wp_region_any hm ?_
 show wpAny P .any l.toArray Q l.toArray.size (Array.replicate l.toArray.size false) a (World.drew w)
 simp only[nN,aeF,aaS,abC]at hB
 obtain⟨⟨⟨⟨⟨h1,h2⟩,h3⟩,h4⟩,h6⟩,⟨hb,hlex⟩,hone⟩:=hB
 have hln:(l.take n).length=n:=by simp;omega
 obtain⟨L,hL⟩:∃L,l.take n=L:=⟨_,rfl⟩
 rw[hL]at h hb hlex hone hln
 cases hk:L[k]? with
 |none=>rw[hk]at hone;cases hone
 |some ok=>
 rw[hk]at hone
 simp only[aaS,agN,Θ]at hone
 obtain⟨⟨hg,iC⟩,hap⟩:=hone
 have hkl:=(aca.1 hk).1
 have rW:=hlex
 simp only[Region.lexB,aaS]at rW
 have hsel:∀(j:Nat) (o:Oper),L[j]? =some o→∀cs b,o.op≠ .select cs b:=fun j o ho cs b=>Region.noSelect_spec rW.1 j o cs b (by simpa using ho)
 have hsplit:L=L.take k++ok::L.drop (k+1):=by
  conv=>lhs;rw[←acB k L]
  rw[abv hkl,(aca.1 hk).2]
 have h0:=EC _ _ _ h
 obtain⟨asT,a1,k1,k2⟩:=I8 (k:=k) (L.take k) 0 a (by simp;omega) h0
 obtain⟨asU,a',q1,q2,q3⟩:=Gy (k:=k) (ok:=ok) (hsel k ok hk) (L.drop (k+1)) (k+1) a1 (aar _) (fun o ho=>⟨hap o ho,by
  obtain⟨j,hj,rfl⟩:=List.mem_iff_getElem.1 (List.mem_of_mem_drop ho)
  exact hsel j _ (abE hj)⟩) k1
 have hlk:(L.take k).length=k:=by simp;omega
 obtain⟨R,hR⟩:∃R:Value→World→Prop,R=fun v w'=>C w'∧wpList P l.toArray Q (l.drop n) (a'.put ok.dst v) w':=⟨_,rfl⟩
 have hsp:qQ P C R ok a':=by rw[hR];exact qQ.of (K:=fun b w'=>C w'∧wpList P l.toArray Q (l.drop n) b w') hg (q1 ok hk _ fun b w2 h1 h2=>⟨h1,h2⟩)
 have hsp1:qQ P C R ok a1:=by unfold qQ at hsp⊢;rw[←q2];exact hsp
 obtain⟨val,hval⟩:∃val:Nat→Value,val=fun j=>if j<k then asT j else asU j:=⟨_,rfl⟩
 have hseq:∀u,kG L.toArray (oE P C R val k u) (fun b=>b=a'.put ok.dst u) 0 L a:=fun u=>by
  have h9:=k2 R val u (ok::L.drop (k+1)) (fun b=>b=a'.put ok.dst u) (fun j _ h=>by rw[hval];exact ω η) (by
   rw[hlk,acK];refine⟨u, .inl ⟨by unfold Region.wanted;rw[hg],?_⟩,q3 R val u fun j hj=>by rw[hval];exact χ η⟩
   unfold oE;rw[ω rfl];exact⟨rfl,hsp1⟩)
  rw[←hsplit]at h9;exact h9
 have hany:∀u,wX .any L.toArray (oE P C R val k u) (fun b=>b=a'.put ok.dst u) L.length (Array.replicate L.toArray.size false) a:=fun u=>
  Cn (md:= .any) ail rW.1 L 0 _ a ν (by simpa using rW.2) (hseq u)
 have BR:=aco (P:=P) (md:= .any) (C:=C) (R:=R) (l:=L) (Qf:=fun u b=>b=a'.put ok.dst u) (Q':=fun e a' w'=>e= .normal∧wpList P l.toArray Q (l.drop n) a' w') hk hg hb iC (fun u w h=>by rw[hR]at h;exact h.1) (fun u b w hb h=>by rw[hR]at h;rw[hb];exact⟨rfl,h.2⟩) _ (Array.replicate L.toArray.size false) a (World.drew w) ν (.inl ⟨by rw[ni (by simp;omega),abX],hC,hany⟩)
 rw[←hL]at BR
 have:=xw (P:=P) (md:= .any) (Q:=Q) (g:=l.length - n) h1 h2 h3 h4 (Qh:=fun e a' w'=>e= .normal∧wpList P l.toArray Q (l.drop n) a' w') (fun e a w he hh=>absurd hh.1 he)
  (fun a' w' hh=>by
    have:=wpAny_of_seq (md:= .any) (P:=P) (Q':=Q) (l.drop n) n (xM l n) a' w' (fun j=>by simp[agq]) (by simpa using h6) hh.2
    simpa using this)
  _ (Array.replicate l.length false) (Array.replicate (l.take n).toArray.size false) a _
  ⟨by simp,by rw[hL];simpa using hln,fun i hi=>by rw[abX,abX],
   ⟨by simp,fun j oj _ hl=>(by rw[abX]at hl;cases hl),fun t _ ht=>getD_in (by simpa using ht) (abX _ _)⟩⟩ BR
 rw[hL,hln]at this
 rw[show n+(l.length - n)=l.length from by omega]at this
 simpa using this
end
section
variable {P:Program} {md:Region.Mode}
def xJ(P:Program)(C:World→Prop)(R1:Value→World→Prop)(R2:Value→Value→World→Prop)(val:Nat→Value)(k:Nat)(u1 u2:Value)(i:Nat)(o:Oper)(a:Act)(v:Value):Prop:=
 if i=k then v=u1∧qQ P C R1 o a else if i=k+1 then v=u2∧qQ P (R1 u1) (R2 u1) o a else v=val i∧∀w,C w→o.quietAt P a C w v
theorem aeP{C:World→Prop}{R1:Value→World→Prop}{R2:Value→Value→World→Prop}{val:Nat→Value}{k:Nat}{u1 u2:Value}:∀i o (a a':Act) v,execOp a'.eval o=execOp a.eval o→xJ P C R1 R2 val k u1 u2 i o a v→xJ P C R1 R2 val k u1 u2 i o a' v:=fun i o a a' v he h=>by
 unfold xJ qQ Oper.quietAt at*;rw[he];exact h
def agB(md:Region.Mode)(l:List Oper)(k:Nat)(ok:Oper):Bool:=(List.range l.length).all fun i=>i==k||i==k+1||(match l[i]? with|some o=>qc o|none=>false)||ok.after.any fun e=>Region.binds md e&&e.on==i
theorem acp{C:World→Prop}{R1:Value→World→Prop}{R2:Value→Value→World→Prop}{val:Nat→Value}{l:List Oper}{k:Nat}{ok o2:Oper}{Qf:Value→Value→Act→Prop}{Q':Exit→Act→World→Prop}(hk:l[k]? =some ok)(hk2:l[k+1]? =some o2)(hgk:ok.guard=none)(asV:o2.guard=none)(hB:uf md l l.length=true)(hd:agB md l k ok=true)(hd2:∃e∈o2.after,Region.binds md e=true∧e.on=k)
  (zu:∀u w,R1 u w→C w) (hR2:∀u u2 w,R2 u u2 w→C w) (hQ:∀u u2 a w,Qf u u2 a→R2 u u2 w→Q' .normal a w):∀(fuel:Nat) (listed:Array Bool) (a:Act) (w:World),listed.size=l.length→
    ((listed.getD k true=false∧listed.getD (k+1) true=false∧C w∧∀u u2,wX md l.toArray (xJ P C R1 R2 val k u u2) (Qf u u2) fuel listed a)∨
     (listed.getD k true=true∧(∀e∈ok.after,Region.binds md e=true→listed.getD e.on true=true)∧∃u,(listed.getD (k+1) true=false∧R1 u w∧∀u2,wX md l.toArray (xJ P C R1 R2 val k u u2) (Qf u u2) fuel listed a)∨(listed.getD (k+1) true=true∧∃u2,R2 u u2 w∧wX md l.toArray (xJ P C R1 R2 val k u u2) (Qf u u2) fuel listed a)))→wpAny P md l.toArray Q' fuel listed a w:=by
 have hkl:=(aca.1 hk).1
 have aeQ:=(aca.1 hk2).1
 have fw:∀(listed:Array Bool) (a:Act) (w:World),listed.size=l.length→Region.ready md l.toArray listed=[]→(listed.getD (k+1) true=false∨∃u u2,R2 u u2 w∧Qf u u2 a)→Q' .normal a w:=fun listed a w hs hr h=>by
  rcases h with h1|⟨u,u2,h1,h2⟩
  ·have:=Ay (n:=l.length) (lh:=listed) hB hs (by rw[acR];exact hr) (k+1) aeQ
   rw[ni η,this]at h1;cases h1
  ·exact hQ u u2 a w h2 h1
 intro fuel
 induction fuel with
 |zero=>
  intro listed a w hs h
  rcases h with⟨h1,h1',h2,h3⟩|⟨h1,h2,u,⟨h3,h4,h5⟩|⟨h3,u2,h4,h5⟩⟩
  ·exact⟨(h3 undef undef).1,fw listed a w hs (h3 undef undef).1 (.inl h1')⟩
  ·exact⟨(h5 undef).1,fw listed a w hs (h5 undef).1 (.inl h3)⟩
  ·exact⟨h5.1,fw listed a w hs h5.1 (.inr ⟨u,u2,h4,h5.2⟩)⟩
 |succ fuel ih=>
  intro listed a w hs h;refine⟨fun h0=>fw listed a w hs h0 ?_,fun i hi=>?_⟩
  ·rcases h with⟨h1,h1',h2,h3⟩|⟨h1,h2,u,⟨h3,h4,h5⟩|⟨h3,u2,h4,h5⟩⟩
   ·exact .inl h1'
   ·exact .inl h3
   ·exact .inr ⟨u,u2,h4,h5.1 h0⟩
  obtain⟨hun,o,ho,hall⟩:=mem_ready.1 hi
  have hil:i<l.length:=by simpa using (ψ.1 ho).1
  have hs2:(listed.setIfInBounds i true).size=l.length:=by simp[hs]
  have UJ:∀j,listed.getD j true=true→(listed.setIfInBounds i true).getD j true=true:=fun j h=>by
   by_cases P6:i=j
   ·rw[←P6];simp[hs,hil]
   ·rw[getD_set_ne true P6];exact h
  have alX:∀j,listed.getD j false=true→listed.getD j true=true:=fun j h=>by
   rcases agi j listed.size with h'|h'
   ·rw[ni h'];exact h
   ·rw[agA,agv h'];rfl
  have hself:(listed.setIfInBounds i true).getD i true=true:=by simp[hs,hil]
  unfold wpOp;simp only[ho];by_cases hik:i=k
  ·subst hik
   obtain rfl:o=ok:=aau ((show l[i]? =some o by simpa using ho).symm.trans hk)
   rcases h with⟨h1,h1',h2,h3⟩|⟨h1, -⟩
   case inr=>rw[hun]at h1;cases h1
   have hwt:Region.wanted o (yielded l.toArray a.tmps)=true:=by unfold Region.wanted;rw[hgk]
   rw[ω hwt];left
   have hsp:qQ P C R1 o a:=by
    obtain⟨v,hy, -⟩:=(h3 undef undef).2 i hi o ho
    rcases hy with⟨_,hE⟩|⟨hw1,_⟩
    ·unfold xJ at hE;rw[ω rfl]at hE;exact hE.2
    ·rw[hwt]at hw1;cases hw1
   refine hsp.wp h2 fun u w' hu=>ih _ _ _ hs2 (.inr ⟨hself,fun e he hb=>UJ _ (alX _ (hall e he hb)),u, .inl ⟨?_,hu,fun u2=>?_⟩⟩)
   ·rw[getD_set_ne true η];exact h1'
   ·obtain⟨v,hy,hK⟩:=(h3 u u2).2 i hi o ho
    rcases hy with⟨_,hE⟩|⟨hw1,_⟩
    ·unfold xJ at hE;rw[ω rfl]at hE;rw[hE.1]at hK;exact hK
    ·rw[hwt]at hw1;cases hw1
  by_cases ZT:i=k+1
  ·subst ZT
   obtain rfl:o=o2:=aau ((show l[k+1]? =some o by simpa using ho).symm.trans hk2)
   have hlk:listed.getD k true=true:=by
    obtain⟨e,he,hb,hek⟩:=hd2;have:=alX _ (hall e he hb);rw[hek]at this;exact this
   rcases h with⟨h1, -⟩|⟨h1,h2,u,⟨h3,h4,h5⟩|⟨h3, -⟩⟩
   ·rw[hlk]at h1;cases h1
   ·have hwt:Region.wanted o (yielded l.toArray a.tmps)=true:=by unfold Region.wanted;rw[asV]
    rw[ω hwt];left
    have hsp:qQ P (R1 u) (R2 u) o a:=by
     obtain⟨v,hy, -⟩:=(h5 undef).2 _ hi o ho
     rcases hy with⟨_,hE⟩|⟨hw1,_⟩
     ·unfold xJ at hE;rw[χ η,ω rfl]at hE;exact hE.2
     ·rw[hwt]at hw1;cases hw1
    refine hsp.wp h4 fun u2 w' hu=>ih _ _ _ hs2 (.inr ⟨UJ _ h1,fun e he hb=>UJ _ (h2 e he hb),u, .inr ⟨hself,u2,hu,?_⟩⟩)
    obtain⟨v,hy,hK⟩:=(h5 u2).2 _ hi o ho
    rcases hy with⟨_,hE⟩|⟨hw1,_⟩
    ·unfold xJ at hE;rw[χ η,ω rfl]at hE;rw[hE.1]at hK;exact hK
    ·rw[hwt]at hw1;cases hw1
   ·rw[hun]at h3;cases h3
  have hnk:(listed.setIfInBounds i true).getD k true=listed.getD k true:=getD_set_ne true hik;have ZU:(listed.setIfInBounds i true).getD (k+1) true=listed.getD (k+1) true:=getD_set_ne true ZT
  have l6:∀{u u2 v},Ep l.toArray (xJ P C R1 R2 val k u u2) i o v a→(Region.wanted o (yielded l.toArray a.tmps)=true∧v=val i∧∀w,C w→o.quietAt P a C w v)∨(Region.wanted o (yielded l.toArray a.tmps)=false∧v=undef):=fun{u u2 v} h=>h.imp (fun h=>⟨h.1,by have:=h.2;unfold xJ at this;rw[χ hik,χ ZT]at this;exact this⟩) id
  rcases h with⟨h1,h1',h2,h3⟩|⟨h1,h2,u,h3⟩
  ·obtain⟨v,hy,hK⟩:=(h3 undef undef).2 i hi o ho
   have QT:∀u u2,wX md l.toArray (xJ P C R1 R2 val k u u2) (Qf u u2) fuel (listed.setIfInBounds i true) (a.put o.dst v):=fun u u2=>by
    obtain⟨v',hy',hK'⟩:=(h3 u u2).2 i hi o ho
    have:v'=v:=by
     rcases l6 hy with⟨g1,g2, -⟩|⟨g1,rfl⟩<;>rcases l6 hy' with⟨k1,k2, -⟩|⟨k1,rfl⟩
     ·exact k2.trans g2.symm
     ·rw[g1]at k1;cases k1
     ·rw[g1]at k1;cases k1
     ·rfl
    rw[this]at hK';exact hK'
   rcases l6 hy with⟨g1, -,g2⟩|⟨g1,rfl⟩
   ·rw[ω g1]
    left;refine Oper.wp_of_quiet (C:=C) (K:=fun b=>b=a.put o.dst v) h2 (fun b w' hw' hb=>?_) ⟨v,g2,rfl⟩;rw[hb];exact ih _ _ _ hs2 (.inl ⟨hnk.trans h1,ZU.trans h1',hw',QT⟩)
   ·rw[χ (by rw[g1];simp)]
    exact ih _ _ _ hs2 (.inl ⟨hnk.trans h1,ZU.trans h1',h2,QT⟩)
  ·have hp:qc o=true:=by
    have:=Θ.1 hd i (acD.2 hil);simp only[ack,aaZ]at this
    rcases this with((h|h)|h)|h
    ·exact absurd h hik
    ·exact absurd h ZT
    ·rw[show l[i]? =some o by simpa using ho]at h;exact h
    ·obtain⟨j,hj,he⟩:=af6.1 h
     simp only[aaS,aaZ]at he;have:=h2 _ (af8 hj) he.1;rw[he.2,hun]at this;cases this
   have key:∃v,(∀b,b=a.put o.dst v→wpAny P md l.toArray Q' fuel (listed.setIfInBounds i true) b w)∧((Region.wanted o (yielded l.toArray a.tmps)=true∧o.quietAt P a C w v)∨(Region.wanted o (yielded l.toArray a.tmps)=false∧v=undef)):=by
    rcases h3 with⟨h3,h4,h5⟩|⟨h3,u2,h4,h5⟩
    ·obtain⟨v,hy,hK⟩:=(h5 undef).2 i hi o ho
     have QT:∀u2,wX md l.toArray (xJ P C R1 R2 val k u u2) (Qf u u2) fuel (listed.setIfInBounds i true) (a.put o.dst v):=fun u2=>by
      obtain⟨v',hy',hK'⟩:=(h5 u2).2 i hi o ho
      have:v'=v:=by
       rcases l6 hy with⟨g1,g2, -⟩|⟨g1,rfl⟩<;>rcases l6 hy' with⟨k1,k2, -⟩|⟨k1,rfl⟩
       ·exact k2.trans g2.symm
       ·rw[g1]at k1;cases k1
       ·rw[g1]at k1;cases k1
       ·rfl
      rw[this]at hK';exact hK'
     exact⟨v,fun b hb=>by rw[hb];exact ih _ _ _ hs2 (.inr ⟨UJ _ h1,fun e he hb=>UJ _ (h2 e he hb),u, .inl ⟨ZU.trans h3,h4,QT⟩⟩),(l6 hy).imp (fun h=>⟨h.1,h.2.2 w (zu u w h4)⟩) id⟩
    ·obtain⟨v,hy,hK⟩:=h5.2 i hi o ho
     exact⟨v,fun b hb=>by rw[hb];exact ih _ _ _ hs2 (.inr ⟨UJ _ h1,fun e he hb=>UJ _ (h2 e he hb),u, .inr ⟨ZU.trans h3,u2,h4,hK⟩⟩),(l6 hy).imp (fun h=>⟨h.1,h.2.2 w (hR2 u u2 w h4)⟩) id⟩
   obtain⟨v,hnext,⟨g1,g2⟩|⟨g1,rfl⟩⟩:=key
   ·rw[ω g1]
    left;exact Db hp g2 (hnext _ rfl)
   ·rw[χ (by rw[g1];simp)]
    exact hnext _ rfl
theorem Gz{ops:Array Oper}{C:World→Prop}{k:Nat}{K:Act→Prop}:∀(l1:List Oper) (i:Nat) (a:Act),i+l1.length≤k→wpQuiet P ops C K l1 a→
  ∃(val:Nat→Value) (a':Act),K a'∧∀(R1:Value→World→Prop) (R2:Value→Value→World→Prop) (u u2:Value) (rest:List Oper) (Qs:Act→Prop) (l6:Nat→Value),(∀j,i≤j→j<i+l1.length→l6 j=val j)→kG ops (xJ P C R1 R2 l6 k u u2) Qs (i+l1.length) rest a'→kG ops (xJ P C R1 R2 l6 k u u2) Qs i (l1++rest) a
 |[],i,a,_,h=>⟨fun _=>undef,a,h,fun _ _ _ _ _ _ _ _ h=>h⟩
 |o::l1,i,a,hi,h=>by
  rw[aaJ]at hi;unfold wpQuiet at h
  split at h
  ·next hw=>
   obtain⟨v,h1,h2⟩:=h;obtain⟨val,a',k1,k2⟩:=Gz (k:=k) l1 (i+1) _ η h2;refine⟨fun j=>if j=i then v else val j,a',k1,fun R1 R2 u u2 rest Qs l6 hv hs=>⟨v, .inl ⟨hw,?_⟩,k2 R1 R2 u u2 rest Qs l6 (fun j h1 h2=>?_) ?_⟩⟩
   ·unfold xJ;rw[χ η,χ η];exact⟨by rw[hv i (υ _) (by rw[aaJ];omega)];exact(ω rfl).symm,h1⟩
   ·rw[hv j η (by rw[aaJ];omega)];exact χ η
   ·rw[aaJ]at hs;rw[show i+1+l1.length=i+(l1.length+1) by omega];exact hs
  ·next hw=>
   obtain⟨val,a',k1,k2⟩:=Gz (k:=k) l1 (i+1) _ η h;refine⟨val,a',k1,fun R1 R2 u u2 rest Qs l6 hv hs=>⟨undef, .inr ⟨by simpa using hw,rfl⟩,k2 R1 R2 u u2 rest Qs l6 (fun j h1 h2=>hv j η (by rw[aaJ];omega)) ?_⟩⟩;rw[aaJ]at hs;rw[show i+1+l1.length=i+(l1.length+1) by omega];exact hs
def aeJ(l:List Oper)(k:Nat):Bool:=uf .any l l.length&&Region.lexB .any l.toArray&&decide (l.length=k+2)&&match l[k]?,l[k+1]? with
 |some ok,some o2=>ok.guard.isNone&&o2.guard.isNone&&agB .any l k ok&&o2.after.any fun e=>Region.binds .any e&&e.on==k
 |_,_=>false
theorem QB{Q:Exit→Act→World→Prop}{id:Nat}{a:Act}{w:World}{l:List Oper}(n k:Nat)(C:World→Prop)(hm:P.follows .mixedOrders=true)(hB:(nN l n&&aeJ (l.take n) k)=true)(hC:C (World.drew w))
  (h:wpQuiet P (l.take n).toArray C (fun a'=>∀ok,(l.take n)[k]? =some ok→∀K:Act→World→Prop,(∀b w2,C w2→(∀o2,(l.take n)[k+1]? =some o2→∀K2:Act→World→Prop,(∀b2 w3,C w3→wpList P l.toArray Q (l.drop n) b2 w3→K2 b2 w3)→wpList P (l.take n).toArray (fun e b2 w3=>e= .normal∧b2.defers=b.defers∧K2 b2 w3) [o2] b w2)→K b w2)→∀w',C w'→wpList P (l.take n).toArray (fun e b w2=>e= .normal∧b.defers=a'.defers∧K b w2) [ok] a' w') ((l.take n).take k) a):(Code.region id l.toArray true).wp P Q a w:=by
 refine wp_region_any hm ?_
 show wpAny P .any l.toArray Q l.toArray.size (Array.replicate l.toArray.size false) a (World.drew w)
 simp only[nN,aeJ,aaS,abC]at hB
 obtain⟨⟨⟨⟨⟨h1,h2⟩,h3⟩,h4⟩,h6⟩,⟨⟨hb,hlex⟩,hlk⟩,hone⟩:=hB
 have hln:(l.take n).length=n:=by simp;omega
 obtain⟨L,hL⟩:∃L,l.take n=L:=⟨_,rfl⟩
 rw[hL]at h hb hlex hone hln hlk
 cases hk:L[k]? with
 |none=>rw[hk]at hone;cases hone
 |some ok=>
 cases hk2:L[k+1]? with
 |none=>rw[hk,hk2]at hone;cases hone
 |some o2=>
 rw[hk,hk2]at hone
 simp only[aaS,agN]at hone
 obtain⟨⟨⟨hg,hg2⟩,iC⟩,hd2⟩:=hone
 have asW:∃e∈o2.after,Region.binds .any e=true∧e.on=k:=by
  obtain⟨j,hj,he⟩:=af6.1 hd2;simp only[aaS,aaZ]at he;exact⟨_,af8 hj,he.1,he.2⟩
 have hkl:=(aca.1 hk).1
 have rW:=hlex
 simp only[Region.lexB,aaS]at rW
 have hsplit:L=L.take k++[ok,o2]:=by
  conv=>lhs;rw[←acB k L]
  rw[abv hkl,(aca.1 hk).2,abv η,(aca.1 hk2).2,abY η]
 obtain⟨val,a',k1,k2⟩:=Gz (k:=k) (L.take k) 0 a (by simp;omega) h
 have hlt:(L.take k).length=k:=by simp;omega
 have hc1:=k1 ok hk
 obtain⟨R1,zu⟩:∃R:Value→World→Prop,R=fun u w2=>C w2∧∀o2,L[k+1]? =some o2→∀K2:Act→World→Prop,(∀b2 w3,C w3→wpList P l.toArray Q (l.drop n) b2 w3→K2 b2 w3)→wpList P L.toArray (fun e b2 w3=>e= .normal∧b2.defers=(a'.put ok.dst u).defers∧K2 b2 w3) [o2] (a'.put ok.dst u) w2:=⟨_,rfl⟩
 obtain⟨R2,hR2⟩:∃R:Value→Value→World→Prop,R=fun u u2 w3=>C w3∧wpList P l.toArray Q (l.drop n) ((a'.put ok.dst u).put o2.dst u2) w3:=⟨_,rfl⟩
 have hsp:qQ P C R1 ok a':=by
  rw[zu];exact qQ.of (K:=fun b w2=>C w2∧∀o2,L[k+1]? =some o2→∀K2:Act→World→Prop,(∀b2 w3,C w3→wpList P l.toArray Q (l.drop n) b2 w3→K2 b2 w3)→wpList P L.toArray (fun e b2 w3=>e= .normal∧b2.defers=b.defers∧K2 b2 w3) [o2] b w2) hg (hc1 _ fun b w2 h1 h2=>⟨h1,h2⟩)
 have hsp2:∀u,qQ P (R1 u) (R2 u) o2 (a'.put ok.dst u):=fun u=>by
  rw[hR2]
  exact qQ.of (K:=fun b w3=>C w3∧wpList P l.toArray Q (l.drop n) b w3) hg2 fun w2 hw2=>by
   rw[zu]at hw2
   exact hw2.2 o2 hk2 _ fun b2 w3 h1 h2=>⟨h1,h2⟩
 have hseq:∀u u2,kG L.toArray (xJ P C R1 R2 val k u u2) (fun b=>b=(a'.put ok.dst u).put o2.dst u2) 0 L a:=fun u u2=>by
  have h9:=k2 R1 R2 u u2 [ok,o2] (fun b=>b=(a'.put ok.dst u).put o2.dst u2) val (fun j _ h=>rfl) (by
   rw[hlt,acK];refine⟨u, .inl ⟨by unfold Region.wanted;rw[hg],?_⟩,u2, .inl ⟨by unfold Region.wanted;rw[hg2],?_⟩,rfl⟩
   ·unfold xJ;rw[ω rfl];exact⟨rfl,hsp⟩
   ·unfold xJ;rw[χ η,ω rfl];exact⟨rfl,hsp2 u⟩)
  rw[←hsplit]at h9;exact h9
 have hany:∀u u2,wX .any L.toArray (xJ P C R1 R2 val k u u2) (fun b=>b=(a'.put ok.dst u).put o2.dst u2) L.length (Array.replicate L.toArray.size false) a:=fun u u2=>
  Cn (md:= .any) aeP rW.1 L 0 _ a ν (by simpa using rW.2) (hseq u u2)
 have BR:=acp (P:=P) (md:= .any) (C:=C) (R1:=R1) (R2:=R2) (l:=L) (Qf:=fun u u2 b=>b=(a'.put ok.dst u).put o2.dst u2) (Q':=fun e a' w'=>e= .normal∧wpList P l.toArray Q (l.drop n) a' w') hk hk2 hg hg2 hb iC asW (fun u w h=>by rw[zu]at h;exact h.1) (fun u u2 w h=>by rw[hR2]at h;exact h.1) (fun u u2 b w hb h=>by rw[hR2]at h;rw[hb];exact⟨rfl,h.2⟩) _ (Array.replicate L.toArray.size false) a (World.drew w) ν (.inl ⟨by rw[ni (by simp;omega),abX],by rw[ni (by simp;omega),abX],hC,hany⟩)
 rw[←hL]at BR
 have:=xw (P:=P) (md:= .any) (Q:=Q) (g:=l.length - n) h1 h2 h3 h4 (Qh:=fun e a' w'=>e= .normal∧wpList P l.toArray Q (l.drop n) a' w') (fun e a w he hh=>absurd hh.1 he)
  (fun a' w' hh=>by
    have:=wpAny_of_seq (md:= .any) (P:=P) (Q':=Q) (l.drop n) n (xM l n) a' w' (fun j=>by simp[agq]) (by simpa using h6) hh.2
    simpa using this)
  _ (Array.replicate l.length false) (Array.replicate (l.take n).toArray.size false) a _
  ⟨by simp,by rw[hL];simpa using hln,fun i hi=>by rw[abX,abX],
   ⟨by simp,fun j oj _ hl=>(by rw[abX]at hl;cases hl),fun t _ ht=>getD_in (by simpa using ht) (abX _ _)⟩⟩ BR
 rw[hL,hln]at this
 rw[show n+(l.length - n)=l.length from by omega]at this
 simpa using this
end
end Go.Proofs.YtlboejdhmggjpaaGreat
